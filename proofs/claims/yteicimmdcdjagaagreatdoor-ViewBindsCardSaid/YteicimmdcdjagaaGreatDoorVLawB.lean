/- ViewBinds. -/
import Derived.Test.YteicimmdcdjagaaGreatDoorVRAll
import Derived.Test.YteicimmdcdjagaaGreatDoorMDigR
set_option linter.unusedVariables false
set_option linter.unusedSimpArgs false
namespace Go.Proofs.YteicimmdcdjagaaGreatDoor
open Go.RowKit Go.Shelf

theorem contentN_bd (l : List VNote) (n : Nat) (h : l.length ≤ n) (hn : n ≤ 1000) (hz : ∀ n ∈ l, NoteZ n) : (contentN l).length ≤ 10 + 65566 * n := by
  have h1 := enc_length (zz (l.length : Int))
  have h2 := notesC_bd l hz
  unfold contentN
  rw [List.length_append]
  have : 65566 * l.length ≤ 65566 * n := Nat.mul_le_mul_left _ h
  omega
theorem allH_el {K : List UInt8} {l : List VNote} (hl : l.length ≤ 13) (hz : ∀ n ∈ l, NoteZ n) : ∀ x ∈ allH ⟨K, l⟩, x.length ≤ 1000000 := fun x hx => by
  rcases List.mem_append.1 hx with h | h
  · have := hashedL_el (sealsL ⟨K, l⟩).length (sealsL ⟨K, l⟩) (Nat.le_refl _) (sealsL_sm _).2 x h
    omega
  · obtain ⟨i, _, hi⟩ := List.mem_flatMap.1 h
    have hc := contentN_bd (ofN l i) 13 (Nat.le_trans (List.length_filter_le _ _) hl) (by omega) (fun n hn => hz n (List.mem_filter.1 hn).1)
    have hc : (contentN (ofL ⟨K, l⟩ i)).length ≤ 10 + 65566 * 13 := hc
    have hs := saltB_length K i
    have hf := leafB_length (contentN (ofL ⟨K, l⟩ i))
    simp only [sealH, List.mem_cons, List.not_mem_nil, or_false] at hi
    rcases hi with rfl | rfl
    · rw [List.length_cons]; omega
    · rw [List.length_cons, List.length_append]
      have hs : (saltB (⟨K, l⟩ : VDos).key i).length = 32 := hs
      omega
theorem allH_len {K : List UInt8} {l : List VNote} : (allH ⟨K, l⟩).length ≤ 1000 := by
  have := allTo_len ⟨K, l⟩ 100
  have e : allTo ⟨K, l⟩ 100 = allH ⟨K, l⟩ := rfl
  rw [e] at this
  omega
theorem binds_plain {K J : List UInt8} {l m : List VNote} (hd : dosB ⟨K, l⟩ = true) (he : dosB ⟨J, m⟩ = true) (h : rootL (sealsL ⟨K, l⟩) = rootL (sealsL ⟨J, m⟩)) : (l = m ∧ saltB K 3 = saltB J 3) ∨ meetB (allH ⟨K, l⟩) (allH ⟨J, m⟩) = true := by
  rcases dos_bind (lt := fun a b => ltN a b = true) (fun a h => by rw [ltN_irr] at h; cases h) (fun a b h g => by rw [ltN_asym h] at g; cases g) (dosB_dos hd) (dosB_dos he) h with ⟨h1, h2⟩ | h
  · exact .inl ⟨h1, h2 3 (by omega)⟩
  · exact .inr h
/-- What the steps of the last region leave. -/
def BindF (B : Nat) (p q : List Bytes) : Nat → Value → World → Prop := fun k v W => if k = 13 then OwnS B W v p else if k = 15 then OwnS B W v q else v = .bool true
theorem bindF_13 {B : Nat} {p q : List Bytes} {v : Value} {W : World} : BindF B p q 13 v W ↔ OwnS B W v p := by unfold BindF; rw [if_pos rfl]
theorem bindF_15 {B : Nat} {p q : List Bytes} {v : Value} {W : World} : BindF B p q 15 v W ↔ OwnS B W v q := by unfold BindF; rw [if_neg (by decide), if_pos rfl]
theorem bindF_16 {B : Nat} {p q : List Bytes} {v : Value} {W : World} : BindF B p q 16 v W ↔ v = .bool true := by unfold BindF; rw [if_neg (by decide), if_neg (by decide)]
theorem bindF_kept {B k : Nat} {p q : List Bytes} {v : Value} {W W' : World} (h : BindF B p q k v W) (hg : W.grownBy W' none) : BindF B p q k v W' := by
  unfold BindF at h ⊢
  split at h
  · rename_i h5; rw [if_pos h5]; exact ownS_kept h hg (fun g h => by cases h)
  · rename_i h5; rw [if_neg h5]
    split at h
    · rename_i h6; rw [if_pos h6]; exact ownS_kept h hg (fun g h => by cases h)
    · rename_i h6; rw [if_neg h6]; exact h
theorem bs_ne_list (x y : Bytes) : ((bs x).toList != (bs y).toList) = (x != y) := by rw [bne, bs_eq_list]; rfl
theorem saltE_3 {K : Bytes} (h : K.length = 32) : saltE K 3 = (saltB K 3, 0) := by unfold saltE; rw [decide_eq_true h]; rfl
theorem rootE_ok {d : VDos} (h : dosB d = true) : rootE d = (rootL (sealsL d), 0) := by unfold rootE; rw [if_pos h]
set_option maxRecDepth 100000 in
set_option maxHeartbeats 16000000 in
theorem lawB (z : Int) (xv yv : Value) (N M : Nat) (f g : Nat → Nat → Int) (other : Int) (w : World) (hz : -9223372036854775808 ≤ z ∧ z ≤ 9223372036854775807) (hot : -9223372036854775808 ≤ other ∧ other ≤ 9223372036854775807)
    (hX : FourAt w.heap.size w xv N f) (hY : FourAt w.heap.size w yv M g) (hT : Rounds w) :
    Calls Tryz.prog 3 #[.int .i64 z, xv, yv, .int .i64 other] w fun e w' => e = .returned (.bool true) ∧ Below w.heap.size w w' := by
  have HL0 := Lib.hid (LiveP.start hT)
  have HX := Lib.hid hX
  have HY := Lib.hid hY
  have HZ := Lib.hid hz
  have HOt := Lib.hid hot
  clear hz hot hX hY hT
  go_enter Tryz.func3, Tryz.ntmps3
  go_wp2_with fail
  refine (vsane_any _ HL0.out.rounds).mono ?_
  rintro e w1 ⟨rfl, hb⟩
  have HL1 := Lib.hid (HL0.out.step hb)
  clear hb HL0
  go_wp2_with fail
  refine (made_any z xv N f _ HZ.out (HX.out.later HL1.out.below)).mono ?_
  rintro e w2 ⟨nv, rfl, ho, hb⟩
  obtain ⟨hd1, hd2, hd3, hd4⟩ := madeD_ok (keyB_length z) N f
  obtain ⟨K, hK⟩ : ∃ K, K = keyB z := ⟨_, rfl⟩
  obtain ⟨l, hl⟩ : ∃ l, l = (madeD (keyB z) N f).notes := ⟨_, rfl⟩
  have hdo : dosB ⟨K, l⟩ = true := by rw [hK, hl]; exact made_dos z N f
  have hln : l.length ≤ 12 := by rw [hl]; exact hd3
  have hkl : K.length = 32 := by rw [hK]; exact keyB_length _
  rw [← hl] at ho
  rw [← hK]
  clear hd1 hd2 hd3 hd4 hK hl HX HZ
  obtain ⟨ra, rc, hnv, hrc1, hrc2⟩ := ho.shape
  subst hnv
  generalize hrn : l.length = rn at *
  have HRn := Lib.hid hrn
  have HDa := Lib.hid hdo
  have HDak := Lib.hid hkl
  have hL := (((HL1.out.step hb).add (P := RowsN noteK (.slice ra rn rc) l) (keep_rows (ho.rows noteOk))).alloc (.cells #[.string (bs K), .slice ra rn rc] 26)).add (P := BoxN w2.heap.size 26 #[.string (bs K), .slice ra rn rc]) (keep_box (box_new w2 _ _))
  have HL2 := Lib.hid hL
  clear hL hrn hdo hkl hb ho hrc1 HL1
  go_wp2_with fail
  refine (made_any other yv M g _ HOt.out (HY.out.later HL2.out.below)).mono ?_
  rintro e w3 ⟨nv, rfl, ho, hb⟩
  obtain ⟨hd1, hd2, hd3, hd4⟩ := madeD_ok (keyB_length other) M g
  obtain ⟨J, hK⟩ : ∃ J, J = keyB other := ⟨_, rfl⟩
  obtain ⟨m, hl⟩ : ∃ m, m = (madeD (keyB other) M g).notes := ⟨_, rfl⟩
  have hdo : dosB ⟨J, m⟩ = true := by rw [hK, hl]; exact made_dos other M g
  have hln : m.length ≤ 12 := by rw [hl]; exact hd3
  have hkl : J.length = 32 := by rw [hK]; exact keyB_length _
  rw [← hl] at ho
  rw [← hK]
  clear hd1 hd2 hd3 hd4 hK hl HY HOt
  obtain ⟨sa, sc, hnv, hrc1, hrc2⟩ := ho.shape
  subst hnv
  generalize hrn : m.length = sn at *
  have HSn := Lib.hid hrn
  have HDb := Lib.hid hdo
  have HDbk := Lib.hid hkl
  have hL := (((HL2.out.step hb).add (P := RowsN noteK (.slice sa sn sc) m) (keep_rows (ho.rows noteOk))).alloc (.cells #[.string (bs J), .slice sa sn sc] 26)).add (P := BoxN w3.heap.size 26 #[.string (bs J), .slice sa sn sc]) (keep_box (box_new w3 _ _))
  have HL3 := Lib.hid hL
  clear hL hrn hdo hkl hb ho hrc1 HL2
  obtain ⟨R, hR⟩ : ∃ R, R = rootL (sealsL ⟨K, l⟩) := ⟨_, rfl⟩
  obtain ⟨R', hR'⟩ : ∃ R', R' = rootL (sealsL ⟨J, m⟩) := ⟨_, rfl⟩
  obtain ⟨S, hS⟩ : ∃ S, S = saltB K 3 := ⟨_, rfl⟩
  obtain ⟨S', hS'⟩ : ∃ S', S' = saltB J 3 := ⟨_, rfl⟩
  have HRe := Lib.hid (rootE_ok HDa.out)
  have HRe' := Lib.hid (rootE_ok HDb.out)
  have HSe := Lib.hid (saltE_3 HDak.out)
  have HSe' := Lib.hid (saltE_3 HDbk.out)
  rw [← hR] at HRe
  rw [← hR'] at HRe'
  rw [← hS] at HSe
  rw [← hS'] at HSe'
  have hr32 : (((bs R).size : Int) != 32) = false := vsize32_f (by rw [hR]; exact rootL_length _)
  have HP := Lib.hid (binds_plain HDa.out HDb.out)
  rw [← hR, ← hR', ← hS, ← hS'] at HP
  have HSame : Hid (l = m → K = J → R = R' ∧ S = S') := fun h1 h2 => by rw [hR, hR', hS, hS', h1, h2]; exact ⟨rfl, rfl⟩
  clear hR hR' hS hS'
  have d0 := BoxN.cell (show (BoxN w2.heap.size 26 #[.string (bs K), .slice ra rn rc]) _ from HL3.out.get (by simp)) 0 _ rfl
  have d1 := BoxN.cell (show (BoxN w2.heap.size 26 #[.string (bs K), .slice ra rn rc]) _ from HL3.out.get (by simp)) 1 _ rfl
  have c0 := BoxN.cell (show (BoxN w3.heap.size 26 #[.string (bs J), .slice sa sn sc]) _ from HL3.out.get (by simp)) 0 _ rfl
  have c1 := BoxN.cell (show (BoxN w3.heap.size 26 #[.string (bs J), .slice sa sn sc]) _ from HL3.out.get (by simp)) 1 _ rfl
  go_wp2_with fail
  clear d0 d1 c0 c1
  refine (vRoot_any K _ l _ (show (RowsN noteK (.slice ra rn rc) l) _ from HL3.out.get (by simp)) (by rw [HRn.out]; omega) HL3.out.rounds).mono ?_
  rintro e w4 ⟨rfl, hb⟩
  rw [HRe.out]
  simp only
  have HL4 := Lib.hid (HL3.out.step hb)
  clear hb HL3 HRe
  have d0 := BoxN.cell (show (BoxN w2.heap.size 26 #[.string (bs K), .slice ra rn rc]) _ from HL4.out.get (by simp)) 0 _ rfl
  have d1 := BoxN.cell (show (BoxN w2.heap.size 26 #[.string (bs K), .slice ra rn rc]) _ from HL4.out.get (by simp)) 1 _ rfl
  have c0 := BoxN.cell (show (BoxN w3.heap.size 26 #[.string (bs J), .slice sa sn sc]) _ from HL4.out.get (by simp)) 0 _ rfl
  have c1 := BoxN.cell (show (BoxN w3.heap.size 26 #[.string (bs J), .slice sa sn sc]) _ from HL4.out.get (by simp)) 1 _ rfl
  go_wp2_with fail
  clear d0 d1 c0 c1
  refine (vRoot_any J _ m _ (show (RowsN noteK (.slice sa sn sc) m) _ from HL4.out.get (by simp)) (by rw [HSn.out]; omega) HL4.out.rounds).mono ?_
  rintro e w5 ⟨rfl, hb⟩
  rw [HRe'.out]
  simp only
  have HL5 := Lib.hid (HL4.out.step hb)
  clear hb HL4 HRe'
  have d0 := BoxN.cell (show (BoxN w2.heap.size 26 #[.string (bs K), .slice ra rn rc]) _ from HL5.out.get (by simp)) 0 _ rfl
  have d1 := BoxN.cell (show (BoxN w2.heap.size 26 #[.string (bs K), .slice ra rn rc]) _ from HL5.out.get (by simp)) 1 _ rfl
  have c0 := BoxN.cell (show (BoxN w3.heap.size 26 #[.string (bs J), .slice sa sn sc]) _ from HL5.out.get (by simp)) 0 _ rfl
  have c1 := BoxN.cell (show (BoxN w3.heap.size 26 #[.string (bs J), .slice sa sn sc]) _ from HL5.out.get (by simp)) 1 _ rfl
  go_wp2_with fail
  clear d0 d1 c0 c1
  refine (vSalt_any K 3 _ HL5.out.rounds).mono ?_
  rintro e w6 ⟨rfl, hb⟩
  rw [HSe.out]
  simp only
  have HL6 := Lib.hid (HL5.out.step hb)
  clear hb HL5 HSe
  have d0 := BoxN.cell (show (BoxN w2.heap.size 26 #[.string (bs K), .slice ra rn rc]) _ from HL6.out.get (by simp)) 0 _ rfl
  have d1 := BoxN.cell (show (BoxN w2.heap.size 26 #[.string (bs K), .slice ra rn rc]) _ from HL6.out.get (by simp)) 1 _ rfl
  have c0 := BoxN.cell (show (BoxN w3.heap.size 26 #[.string (bs J), .slice sa sn sc]) _ from HL6.out.get (by simp)) 0 _ rfl
  have c1 := BoxN.cell (show (BoxN w3.heap.size 26 #[.string (bs J), .slice sa sn sc]) _ from HL6.out.get (by simp)) 1 _ rfl
  go_wp2_with fail
  clear d0 d1 c0 c1
  refine (vSalt_any J 3 _ HL6.out.rounds).mono ?_
  rintro e w7 ⟨rfl, hb⟩
  rw [HSe'.out]
  simp only
  have HL7 := Lib.hid (HL6.out.step hb)
  clear hb HL6 HSe'
  have d0 := BoxN.cell (show (BoxN w2.heap.size 26 #[.string (bs K), .slice ra rn rc]) _ from HL7.out.get (by simp)) 0 _ rfl
  have d1 := BoxN.cell (show (BoxN w2.heap.size 26 #[.string (bs K), .slice ra rn rc]) _ from HL7.out.get (by simp)) 1 _ rfl
  have c0 := BoxN.cell (show (BoxN w3.heap.size 26 #[.string (bs J), .slice sa sn sc]) _ from HL7.out.get (by simp)) 0 _ rfl
  have c1 := BoxN.cell (show (BoxN w3.heap.size 26 #[.string (bs J), .slice sa sn sc]) _ from HL7.out.get (by simp)) 1 _ rfl
  go_wp2_with fail
  clear d0 d1 c0 c1
  refine (sameNotes_any _ _ l m _ (show (RowsN noteK (.slice ra rn rc) l) _ from HL7.out.get (by simp)) (show (RowsN noteK (.slice sa sn sc) m) _ from HL7.out.get (by simp))).mono ?_
  rintro e w8 ⟨rfl, hb⟩
  have HL8 := Lib.hid (HL7.out.step hb)
  clear hb HL7 hr32
  have d0 := BoxN.cell (show (BoxN w2.heap.size 26 #[.string (bs K), .slice ra rn rc]) _ from HL8.out.get (by simp)) 0 _ rfl
  have d1 := BoxN.cell (show (BoxN w2.heap.size 26 #[.string (bs K), .slice ra rn rc]) _ from HL8.out.get (by simp)) 1 _ rfl
  have c0 := BoxN.cell (show (BoxN w3.heap.size 26 #[.string (bs J), .slice sa sn sc]) _ from HL8.out.get (by simp)) 0 _ rfl
  have c1 := BoxN.cell (show (BoxN w3.heap.size 26 #[.string (bs J), .slice sa sn sc]) _ from HL8.out.get (by simp)) 1 _ rfl
  have hkj := bs_eq_list K J
  have hrr := bs_ne_list R R'
  have hrr2 := bs_eq_list R R'
  have hss := bs_eq_list S S'
  have hbelow := Lib.hid HL8.out.below
  by_cases hlm : l = m
  rotate_left
  · have elm : (l == m) = false := beq_eq_false_iff_ne.2 hlm
    rw [elm]
    by_cases hr : R = R'
    · have HM : Hid (meetB (allH ⟨K, l⟩) (allH ⟨J, m⟩) = true) := (HP.out hr).resolve_left (fun h => hlm h.1)
      rw [show (R != R') = false from by rw [hr]; simp] at hrr; rw [show (R == R') = true from by rw [hr]; simp] at hrr2
      clear hr hkj hss hlm elm HP HSame
      generalize bs R = XR at *; generalize bs R' = XR' at *; generalize bs S = XS at *; generalize bs S' = XS' at *
      have HQ : Hid (∀ W, w8.grownBy W none → (W.cell? ⟨w2.heap.size, 0, none⟩ = some (.string (bs K)) ∧ W.cell? ⟨w2.heap.size, 1, none⟩ = some (.slice ra rn rc)) ∧ (W.cell? ⟨w3.heap.size, 0, none⟩ = some (.string (bs J)) ∧ W.cell? ⟨w3.heap.size, 1, none⟩ = some (.slice sa sn sc))) := fun W hW => by
        have h := HL8.out.step (grown_below hW)
        exact ⟨⟨BoxN.cell (show (BoxN w2.heap.size 26 #[.string (bs K), .slice ra rn rc]) _ from h.get (by simp)) 0 _ rfl, BoxN.cell (show (BoxN w2.heap.size 26 #[.string (bs K), .slice ra rn rc]) _ from h.get (by simp)) 1 _ rfl⟩, ⟨BoxN.cell (show (BoxN w3.heap.size 26 #[.string (bs J), .slice sa sn sc]) _ from h.get (by simp)) 0 _ rfl, BoxN.cell (show (BoxN w3.heap.size 26 #[.string (bs J), .slice sa sn sc]) _ from h.get (by simp)) 1 _ rfl⟩⟩
      have HLs := Lib.hid (fun W (hW : w8.grownBy W none) => HL8.out.step (grown_below hW))
      go_wp2
      clear d0 d1 c0 c1
      refine wp_region_calm ⟨[13, 15, 16], BindF w8.heap.size (allH ⟨K, l⟩) (allH ⟨J, m⟩), fun _ => [], 99, none, 1000⟩ (by kernel_rfl) (by kernel_rfl) (by kernel_rfl) (fun g h => by cases h) (fun q hq v W W' c h hg hc => ?_) ?_
      · cases c with
        | some g => obtain ⟨_, _, i, j, u, hd, _⟩ := hc g rfl; simp at hd
        | none =>
          exact bindF_kept h hg
      iterate 6 (refine calm_quiet (v := ?_) (by rfl) (by rfl) (fun W hW hD => ?_) ?_; rotate_left; (· (clear hD hW; go_simp; try with_reducible rfl)); simp only [Act.put, List.setIfInBounds_toArray, List.set_cons_zero, List.set_cons_succ, Nat.reduceAdd, Nat.zero_add])
      iterate 3 (refine calm_skip (by rfl) (by rfl) ?_; simp only [Act.put, List.setIfInBounds_toArray, List.set_cons_zero, List.set_cons_succ, Nat.reduceAdd, Nat.zero_add])
      iterate 3 (refine calm_quiet (v := ?_) (by rfl) (by rfl) (fun W hW hD => ?_) ?_; rotate_left; (· (clear hD hW; go_simp; try with_reducible rfl)); simp only [Act.put, List.setIfInBounds_toArray, List.set_cons_zero, List.set_cons_succ, Nat.reduceAdd, Nat.zero_add])
      iterate 1 (refine calm_quiet (v := ?_) (by rfl) (by rfl) (fun W hW hD => ?_) ?_; rotate_left; (· (obtain ⟨⟨z0, z1⟩, y0, y1⟩ := HQ.out W hW; clear hD hW; go_simp; try with_reducible rfl)); simp only [Act.put, List.setIfInBounds_toArray, List.set_cons_zero, List.set_cons_succ, Nat.reduceAdd, Nat.zero_add])
      refine calm_makes (by rfl) (by rfl) (fun W hW hD Kc hK => ?_) (fun v105 => ?_)
      · have h := HLs.out W hW
        have hws := hW.size
        refine wp_of_call (f := 15) (args := #[dosV K (.slice ra rn rc)]) ?_ ((refAll_any K (.slice ra rn rc) l W (show (RowsN noteK (.slice ra rn rc) l) _ from h.get (by simp)) (by rw [HRn.out]; omega) (dosB_z HDa.out).2.1 HDak.out h.rounds).mono ?_)
        · clear hD hW hK h
          go_simp
        · rintro e w5 ⟨rv, rfl, ho, hb5⟩
          exact ⟨_, rfl, hK _ _ (made_below (by exact (bindF_13.2 (ho.mono hws) : BindF w8.heap.size (allH ⟨K, l⟩) (allH ⟨J, m⟩) 13 rv w5)) hb5 (fun g hg => (World.ownsRow.lt ho g hg)))⟩
      simp only [Act.put, List.setIfInBounds_toArray, List.set_cons_zero, List.set_cons_succ, Nat.reduceAdd, Nat.zero_add]
      iterate 1 (refine calm_quiet (v := ?_) (by rfl) (by rfl) (fun W hW hD => ?_) ?_; rotate_left; (· (obtain ⟨⟨z0, z1⟩, y0, y1⟩ := HQ.out W hW; clear hD hW; go_simp; try with_reducible rfl)); simp only [Act.put, List.setIfInBounds_toArray, List.set_cons_zero, List.set_cons_succ, Nat.reduceAdd, Nat.zero_add])
      refine calm_makes (by rfl) (by rfl) (fun W hW hD Kc hK => ?_) (fun v107 => ?_)
      · have h := HLs.out W hW
        have hws := hW.size
        refine wp_of_call (f := 15) (args := #[dosV J (.slice sa sn sc)]) ?_ ((refAll_any J (.slice sa sn sc) m W (show (RowsN noteK (.slice sa sn sc) m) _ from h.get (by simp)) (by rw [HSn.out]; omega) (dosB_z HDb.out).2.1 HDbk.out h.rounds).mono ?_)
        · clear hD hW hK h
          go_simp
        · rintro e w5 ⟨rv, rfl, ho, hb5⟩
          exact ⟨_, rfl, hK _ _ (made_below (by exact (bindF_15.2 (ho.mono hws) : BindF w8.heap.size (allH ⟨K, l⟩) (allH ⟨J, m⟩) 15 rv w5)) hb5 (fun g hg => (World.ownsRow.lt ho g hg)))⟩
      simp only [Act.put, List.setIfInBounds_toArray, List.set_cons_zero, List.set_cons_succ, Nat.reduceAdd, Nat.zero_add]
      refine calm_makes (by rfl) (by rfl) (fun W hW hD Kc hK => ?_) (fun v108 => ?_)
      · have h13 : OwnS w8.heap.size W v105 (allH ⟨K, l⟩) := (bindF_13 (B := w8.heap.size) (p := allH ⟨K, l⟩) (q := allH ⟨J, m⟩) (W := W)).1 (hD [] 13 (by kernel_rfl) (by kernel_rfl) (by kernel_rfl))
        have h15 : OwnS w8.heap.size W v107 (allH ⟨J, m⟩) := (bindF_15 (B := w8.heap.size) (p := allH ⟨K, l⟩) (q := allH ⟨J, m⟩) (W := W)).1 (hD [] 15 (by kernel_rfl) (by kernel_rfl) (by kernel_rfl))
        refine wp_of_call (f := 14) (args := #[v105, v107]) ?_ ((collided_any v105 v107 (allH ⟨K, l⟩) (allH ⟨J, m⟩) W h13.strs h15.strs (allH_el (by rw [HRn.out]; omega) (dosB_z HDa.out).2.1) (allH_el (by rw [HSn.out]; omega) (dosB_z HDb.out).2.1) (Nat.le_trans allH_len (by omega))).mono ?_)
        · clear hD hW hK h13 h15
          go_simp
        · rintro e w5 ⟨rfl, hb5⟩
          exact ⟨_, rfl, hK _ _ (made_plain (by exact (bindF_16.2 (by rw [HM.out]) : BindF w8.heap.size (allH ⟨K, l⟩) (allH ⟨J, m⟩) 16 (.bool (meetB (allH ⟨K, l⟩) (allH ⟨J, m⟩))) w5)) hb5 rfl)⟩
      simp only [Act.put, List.setIfInBounds_toArray, List.set_cons_zero, List.set_cons_succ, Nat.reduceAdd, Nat.zero_add]
      refine calm_quiet (v := .bool true) (by rfl) (by rfl) (fun W hW hD => ?_) ?_
      · obtain rfl : v108 = .bool true := (bindF_16 (B := w8.heap.size) (p := allH ⟨K, l⟩) (q := allH ⟨J, m⟩) (W := W)).1 (hD [] 16 (by kernel_rfl) (by kernel_rfl) (by kernel_rfl))
        clear hD hW
        go_simp
      simp only [Act.put, List.setIfInBounds_toArray, List.set_cons_zero, List.set_cons_succ, Nat.reduceAdd, Nat.zero_add]
      iterate 1 (refine calm_quiet (v := ?_) (by rfl) (by rfl) (fun W hW hD => ?_) ?_; rotate_left; (· (clear hD hW; go_simp; try with_reducible rfl)); simp only [Act.put, List.setIfInBounds_toArray, List.set_cons_zero, List.set_cons_succ, Nat.reduceAdd, Nat.zero_add])
      refine calm_nil fun W hW hF => ?_
      have HBf := Lib.hid (HL8.out.step (grown_below hW)).below
      clear hF hW HL8
      go_wp2
      go_ret
      exact ⟨rfl, HBf.out⟩
    · rw [show (R != R') = true from bne_iff_ne.2 hr] at hrr; rw [show (R == R') = false from beq_eq_false_iff_ne.2 hr] at hrr2
      clear hr hkj hss hlm elm HP HSame
      generalize bs R = XR at *; generalize bs R' = XR' at *; generalize bs S = XS at *; generalize bs S' = XS' at *
      go_wp2
      clear d0 d1 c0 c1
      refine wp_region_calm ⟨[], fun _ _ _ => True, fun _ => [], 99, none, 1000⟩ (by kernel_rfl) (by kernel_rfl) (by kernel_rfl) (fun g h => by cases h) (fun q hq v W W' c h hg hc => h) ?_
      iterate 4 (refine calm_quiet (v := ?_) (by rfl) (by rfl) (fun W hW hD => ?_) ?_; rotate_left; (· (clear hD hW; go_simp; try with_reducible rfl)); simp only [Act.put, List.setIfInBounds_toArray, List.set_cons_zero, List.set_cons_succ, Nat.reduceAdd, Nat.zero_add])
      iterate 6 (refine calm_skip (by rfl) (by rfl) ?_; simp only [Act.put, List.setIfInBounds_toArray, List.set_cons_zero, List.set_cons_succ, Nat.reduceAdd, Nat.zero_add])
      iterate 2 (refine calm_quiet (v := ?_) (by rfl) (by rfl) (fun W hW hD => ?_) ?_; rotate_left; (· (clear hD hW; go_simp; try with_reducible rfl)); simp only [Act.put, List.setIfInBounds_toArray, List.set_cons_zero, List.set_cons_succ, Nat.reduceAdd, Nat.zero_add])
      iterate 5 (refine calm_skip (by rfl) (by rfl) ?_; simp only [Act.put, List.setIfInBounds_toArray, List.set_cons_zero, List.set_cons_succ, Nat.reduceAdd, Nat.zero_add])
      iterate 2 (refine calm_quiet (v := ?_) (by rfl) (by rfl) (fun W hW hD => ?_) ?_; rotate_left; (· (clear hD hW; go_simp; try with_reducible rfl)); simp only [Act.put, List.setIfInBounds_toArray, List.set_cons_zero, List.set_cons_succ, Nat.reduceAdd, Nat.zero_add])
      refine calm_nil fun W hW hF => ?_
      have HBf := Lib.hid (HL8.out.step (grown_below hW)).below
      clear hF hW HL8
      go_wp2
      go_ret
      exact ⟨rfl, HBf.out⟩
  have elm : (l == m) = true := by rw [hlm]; simp
  rw [elm]
  by_cases hk : K = J
  · obtain ⟨g1, g2⟩ := HSame.out hlm hk
    rw [show (K == J) = true from by rw [hk]; simp] at hkj
    rw [show (R == R') = true from by rw [g1]; simp] at hrr2
    rw [show (S == S') = true from by rw [g2]; simp] at hss
    clear hrr hk hlm elm g1 g2 HP HSame
    generalize bs R = XR at *; generalize bs R' = XR' at *; generalize bs S = XS at *; generalize bs S' = XS' at *
    go_wp2
    go_ret
    exact ⟨rfl, hbelow.out⟩
  rw [show (K == J) = false from beq_eq_false_iff_ne.2 hk] at hkj
  by_cases hr : R = R'
  rotate_left
  · rw [show (R != R') = true from bne_iff_ne.2 hr] at hrr; rw [show (R == R') = false from beq_eq_false_iff_ne.2 hr] at hrr2
    clear hr hss hk hlm elm HP HSame
    generalize bs R = XR at *; generalize bs R' = XR' at *; generalize bs S = XS at *; generalize bs S' = XS' at *
    go_wp2
    clear d0 d1 c0 c1
    refine wp_region_calm ⟨[], fun _ _ _ => True, fun _ => [], 99, none, 1000⟩ (by kernel_rfl) (by kernel_rfl) (by kernel_rfl) (fun g h => by cases h) (fun q hq v W W' c h hg hc => h) ?_
    iterate 4 (refine calm_quiet (v := ?_) (by rfl) (by rfl) (fun W hW hD => ?_) ?_; rotate_left; (· (clear hD hW; go_simp; try with_reducible rfl)); simp only [Act.put, List.setIfInBounds_toArray, List.set_cons_zero, List.set_cons_succ, Nat.reduceAdd, Nat.zero_add])
    iterate 6 (refine calm_skip (by rfl) (by rfl) ?_; simp only [Act.put, List.setIfInBounds_toArray, List.set_cons_zero, List.set_cons_succ, Nat.reduceAdd, Nat.zero_add])
    iterate 2 (refine calm_quiet (v := ?_) (by rfl) (by rfl) (fun W hW hD => ?_) ?_; rotate_left; (· (clear hD hW; go_simp; try with_reducible rfl)); simp only [Act.put, List.setIfInBounds_toArray, List.set_cons_zero, List.set_cons_succ, Nat.reduceAdd, Nat.zero_add])
    iterate 5 (refine calm_skip (by rfl) (by rfl) ?_; simp only [Act.put, List.setIfInBounds_toArray, List.set_cons_zero, List.set_cons_succ, Nat.reduceAdd, Nat.zero_add])
    iterate 2 (refine calm_quiet (v := ?_) (by rfl) (by rfl) (fun W hW hD => ?_) ?_; rotate_left; (· (clear hD hW; go_simp; try with_reducible rfl)); simp only [Act.put, List.setIfInBounds_toArray, List.set_cons_zero, List.set_cons_succ, Nat.reduceAdd, Nat.zero_add])
    refine calm_nil fun W hW hF => ?_
    have HBf := Lib.hid (HL8.out.step (grown_below hW)).below
    clear hF hW HL8
    go_wp2
    go_ret
    exact ⟨rfl, HBf.out⟩
  rw [show (R != R') = false from by rw [hr]; simp] at hrr; rw [show (R == R') = true from by rw [hr]; simp] at hrr2
  by_cases hs : S = S'
  · rw [show (S == S') = true from by rw [hs]; simp] at hss
    clear hr hs hk hlm elm HP HSame
    generalize bs R = XR at *; generalize bs R' = XR' at *; generalize bs S = XS at *; generalize bs S' = XS' at *
    go_wp2
    clear d0 d1 c0 c1
    refine wp_region_calm ⟨[], fun _ _ _ => True, fun _ => [], 99, none, 1000⟩ (by kernel_rfl) (by kernel_rfl) (by kernel_rfl) (fun g h => by cases h) (fun q hq v W W' c h hg hc => h) ?_
    iterate 12 (refine calm_quiet (v := ?_) (by rfl) (by rfl) (fun W hW hD => ?_) ?_; rotate_left; (· (clear hD hW; go_simp; try with_reducible rfl)); simp only [Act.put, List.setIfInBounds_toArray, List.set_cons_zero, List.set_cons_succ, Nat.reduceAdd, Nat.zero_add])
    iterate 5 (refine calm_skip (by rfl) (by rfl) ?_; simp only [Act.put, List.setIfInBounds_toArray, List.set_cons_zero, List.set_cons_succ, Nat.reduceAdd, Nat.zero_add])
    iterate 2 (refine calm_quiet (v := ?_) (by rfl) (by rfl) (fun W hW hD => ?_) ?_; rotate_left; (· (clear hD hW; go_simp; try with_reducible rfl)); simp only [Act.put, List.setIfInBounds_toArray, List.set_cons_zero, List.set_cons_succ, Nat.reduceAdd, Nat.zero_add])
    refine calm_nil fun W hW hF => ?_
    have HBf := Lib.hid (HL8.out.step (grown_below hW)).below
    clear hF hW HL8
    go_wp2
    go_ret
    exact ⟨rfl, HBf.out⟩
  · rw [show (S == S') = false from beq_eq_false_iff_ne.2 hs] at hss
    have HM : Hid (meetB (allH ⟨K, l⟩) (allH ⟨J, m⟩) = true) := (HP.out hr).resolve_left (fun h => hs h.2)
    clear hr hs hk hlm elm HP HSame
    generalize bs R = XR at *; generalize bs R' = XR' at *; generalize bs S = XS at *; generalize bs S' = XS' at *
    have HQ : Hid (∀ W, w8.grownBy W none → (W.cell? ⟨w2.heap.size, 0, none⟩ = some (.string (bs K)) ∧ W.cell? ⟨w2.heap.size, 1, none⟩ = some (.slice ra rn rc)) ∧ (W.cell? ⟨w3.heap.size, 0, none⟩ = some (.string (bs J)) ∧ W.cell? ⟨w3.heap.size, 1, none⟩ = some (.slice sa sn sc))) := fun W hW => by
      have h := HL8.out.step (grown_below hW)
      exact ⟨⟨BoxN.cell (show (BoxN w2.heap.size 26 #[.string (bs K), .slice ra rn rc]) _ from h.get (by simp)) 0 _ rfl, BoxN.cell (show (BoxN w2.heap.size 26 #[.string (bs K), .slice ra rn rc]) _ from h.get (by simp)) 1 _ rfl⟩, ⟨BoxN.cell (show (BoxN w3.heap.size 26 #[.string (bs J), .slice sa sn sc]) _ from h.get (by simp)) 0 _ rfl, BoxN.cell (show (BoxN w3.heap.size 26 #[.string (bs J), .slice sa sn sc]) _ from h.get (by simp)) 1 _ rfl⟩⟩
    have HLs := Lib.hid (fun W (hW : w8.grownBy W none) => HL8.out.step (grown_below hW))
    go_wp2
    clear d0 d1 c0 c1
    refine wp_region_calm ⟨[13, 15, 16], BindF w8.heap.size (allH ⟨K, l⟩) (allH ⟨J, m⟩), fun _ => [], 99, none, 1000⟩ (by kernel_rfl) (by kernel_rfl) (by kernel_rfl) (fun g h => by cases h) (fun q hq v W W' c h hg hc => ?_) ?_
    · cases c with
      | some g => obtain ⟨_, _, i, j, u, hd, _⟩ := hc g rfl; simp at hd
      | none =>
        exact bindF_kept h hg
    iterate 12 (refine calm_quiet (v := ?_) (by rfl) (by rfl) (fun W hW hD => ?_) ?_; rotate_left; (· (clear hD hW; go_simp; try with_reducible rfl)); simp only [Act.put, List.setIfInBounds_toArray, List.set_cons_zero, List.set_cons_succ, Nat.reduceAdd, Nat.zero_add])
    iterate 1 (refine calm_quiet (v := ?_) (by rfl) (by rfl) (fun W hW hD => ?_) ?_; rotate_left; (· (obtain ⟨⟨z0, z1⟩, y0, y1⟩ := HQ.out W hW; clear hD hW; go_simp; try with_reducible rfl)); simp only [Act.put, List.setIfInBounds_toArray, List.set_cons_zero, List.set_cons_succ, Nat.reduceAdd, Nat.zero_add])
    refine calm_makes (by rfl) (by rfl) (fun W hW hD Kc hK => ?_) (fun v105 => ?_)
    · have h := HLs.out W hW
      have hws := hW.size
      refine wp_of_call (f := 15) (args := #[dosV K (.slice ra rn rc)]) ?_ ((refAll_any K (.slice ra rn rc) l W (show (RowsN noteK (.slice ra rn rc) l) _ from h.get (by simp)) (by rw [HRn.out]; omega) (dosB_z HDa.out).2.1 HDak.out h.rounds).mono ?_)
      · clear hD hW hK h
        go_simp
      · rintro e w5 ⟨rv, rfl, ho, hb5⟩
        exact ⟨_, rfl, hK _ _ (made_below (by exact (bindF_13.2 (ho.mono hws) : BindF w8.heap.size (allH ⟨K, l⟩) (allH ⟨J, m⟩) 13 rv w5)) hb5 (fun g hg => (World.ownsRow.lt ho g hg)))⟩
    simp only [Act.put, List.setIfInBounds_toArray, List.set_cons_zero, List.set_cons_succ, Nat.reduceAdd, Nat.zero_add]
    iterate 1 (refine calm_quiet (v := ?_) (by rfl) (by rfl) (fun W hW hD => ?_) ?_; rotate_left; (· (obtain ⟨⟨z0, z1⟩, y0, y1⟩ := HQ.out W hW; clear hD hW; go_simp; try with_reducible rfl)); simp only [Act.put, List.setIfInBounds_toArray, List.set_cons_zero, List.set_cons_succ, Nat.reduceAdd, Nat.zero_add])
    refine calm_makes (by rfl) (by rfl) (fun W hW hD Kc hK => ?_) (fun v107 => ?_)
    · have h := HLs.out W hW
      have hws := hW.size
      refine wp_of_call (f := 15) (args := #[dosV J (.slice sa sn sc)]) ?_ ((refAll_any J (.slice sa sn sc) m W (show (RowsN noteK (.slice sa sn sc) m) _ from h.get (by simp)) (by rw [HSn.out]; omega) (dosB_z HDb.out).2.1 HDbk.out h.rounds).mono ?_)
      · clear hD hW hK h
        go_simp
      · rintro e w5 ⟨rv, rfl, ho, hb5⟩
        exact ⟨_, rfl, hK _ _ (made_below (by exact (bindF_15.2 (ho.mono hws) : BindF w8.heap.size (allH ⟨K, l⟩) (allH ⟨J, m⟩) 15 rv w5)) hb5 (fun g hg => (World.ownsRow.lt ho g hg)))⟩
    simp only [Act.put, List.setIfInBounds_toArray, List.set_cons_zero, List.set_cons_succ, Nat.reduceAdd, Nat.zero_add]
    refine calm_makes (by rfl) (by rfl) (fun W hW hD Kc hK => ?_) (fun v108 => ?_)
    · have h13 : OwnS w8.heap.size W v105 (allH ⟨K, l⟩) := (bindF_13 (B := w8.heap.size) (p := allH ⟨K, l⟩) (q := allH ⟨J, m⟩) (W := W)).1 (hD [] 13 (by kernel_rfl) (by kernel_rfl) (by kernel_rfl))
      have h15 : OwnS w8.heap.size W v107 (allH ⟨J, m⟩) := (bindF_15 (B := w8.heap.size) (p := allH ⟨K, l⟩) (q := allH ⟨J, m⟩) (W := W)).1 (hD [] 15 (by kernel_rfl) (by kernel_rfl) (by kernel_rfl))
      refine wp_of_call (f := 14) (args := #[v105, v107]) ?_ ((collided_any v105 v107 (allH ⟨K, l⟩) (allH ⟨J, m⟩) W h13.strs h15.strs (allH_el (by rw [HRn.out]; omega) (dosB_z HDa.out).2.1) (allH_el (by rw [HSn.out]; omega) (dosB_z HDb.out).2.1) (Nat.le_trans allH_len (by omega))).mono ?_)
      · clear hD hW hK h13 h15
        go_simp
      · rintro e w5 ⟨rfl, hb5⟩
        exact ⟨_, rfl, hK _ _ (made_plain (by exact (bindF_16.2 (by rw [HM.out]) : BindF w8.heap.size (allH ⟨K, l⟩) (allH ⟨J, m⟩) 16 (.bool (meetB (allH ⟨K, l⟩) (allH ⟨J, m⟩))) w5)) hb5 rfl)⟩
    simp only [Act.put, List.setIfInBounds_toArray, List.set_cons_zero, List.set_cons_succ, Nat.reduceAdd, Nat.zero_add]
    refine calm_quiet (v := .bool true) (by rfl) (by rfl) (fun W hW hD => ?_) ?_
    · obtain rfl : v108 = .bool true := (bindF_16 (B := w8.heap.size) (p := allH ⟨K, l⟩) (q := allH ⟨J, m⟩) (W := W)).1 (hD [] 16 (by kernel_rfl) (by kernel_rfl) (by kernel_rfl))
      clear hD hW
      go_simp
    simp only [Act.put, List.setIfInBounds_toArray, List.set_cons_zero, List.set_cons_succ, Nat.reduceAdd, Nat.zero_add]
    iterate 1 (refine calm_quiet (v := ?_) (by rfl) (by rfl) (fun W hW hD => ?_) ?_; rotate_left; (· (clear hD hW; go_simp; try with_reducible rfl)); simp only [Act.put, List.setIfInBounds_toArray, List.set_cons_zero, List.set_cons_succ, Nat.reduceAdd, Nat.zero_add])
    refine calm_nil fun W hW hF => ?_
    have HBf := Lib.hid (HL8.out.step (grown_below hW)).below
    clear hF hW HL8
    go_wp2
    go_ret
    exact ⟨rfl, HBf.out⟩
end Go.Proofs.YteicimmdcdjagaaGreatDoor
