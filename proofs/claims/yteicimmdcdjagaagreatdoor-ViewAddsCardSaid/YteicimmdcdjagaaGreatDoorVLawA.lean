/- ViewAdds. -/
import Derived.Test.YteicimmdcdjagaaGreatDoorVLawQ
set_option linter.unusedVariables false
set_option linter.unusedSimpArgs false
namespace Go.Proofs.YteicimmdcdjagaaGreatDoor
open Go.RowKit Go.Shelf

/-- Two notes can be added in either order. -/
theorem adds_plain {K K1 K2 K3 : List UInt8} {l N1 N2 N3 : List VNote} {a b : VNote} {c3 : Int} (hd : dosB ⟨K, l⟩ = true) (ha : a ∉ l) (na : noteB a = true) (hl : l.length ≤ 12)
    (h1 : addN ⟨K, insN a l⟩ b = (⟨K1, N1⟩, 0)) (h2 : addN ⟨K, l⟩ b = (⟨K2, N2⟩, 0)) (h3 : addN ⟨K2, N2⟩ a = (⟨K3, N3⟩, c3)) : c3 = 0 ∧ K1 = K ∧ K3 = K ∧ N1 = N3 := by
  have hbM : b ∉ insN a l := fun h => by
    have := addN_old (d := ⟨K, insN a l⟩) h
    rw [h1] at this
    cases congrArg Prod.snd this
  have hbl : b ∉ l := fun h => hbM (insN_mem.2 (.inr h))
  have hab : a ≠ b := fun h => hbM (insN_mem.2 (.inl h.symm))
  have e1 : K1 = K ∧ N1 = insN b (insN a l) := by
    rcases addN_cases ⟨K, insN a l⟩ b with h | h
    · rw [h1] at h
      have h' := congrArg Prod.fst h
      exact ⟨congrArg VDos.key h', congrArg VDos.notes h'⟩
    · rw [h1] at h; cases congrArg Prod.snd h
  have e2 : (K2 = K ∧ N2 = insN b l) ∧ dosB ⟨K, insN b l⟩ = true := by
    have hx : dosB ⟨K, insN b l⟩ = true := by
      cases hq : dosB ⟨K, insN b l⟩
      · unfold addN at h2
        rw [hd, hq] at h2
        cases congrArg Prod.snd h2
      · rfl
    refine ⟨?_, hx⟩
    rcases addN_cases ⟨K, l⟩ b with h | h
    · rw [h2] at h
      have h' := congrArg Prod.fst h
      exact ⟨congrArg VDos.key h', congrArg VDos.notes h'⟩
    · rw [h2] at h; cases congrArg Prod.snd h
  obtain ⟨⟨rfl, rfl⟩, hx⟩ := e2
  have h4 := (addN_new (d := ⟨K2, insN b l⟩) (n := a) hx na (by show (insN b l).length < 60; rw [insN_length]; omega) (fun h => by
    rcases insN_mem.1 h with h | h
    · exact hab h
    · exact ha h)).1
  rw [h3] at h4
  have h5 := congrArg Prod.fst h4
  have h6 : c3 = 0 := congrArg Prod.snd h4
  have h7 : K3 = K2 := congrArg VDos.key h5
  have h8 : N3 = insN a (insN b l) := congrArg VDos.notes h5
  refine ⟨h6, e1.1, h7, ?_⟩
  rw [e1.2, h8]
  exact insN_comm (dosB_ok hd).2.2.1 ha hbl hab
/-- What the page of a unit becomes by a note. -/
theorem without_plain {K : List UInt8} {l : List VNote} {a : VNote} (hd : dosB ⟨K, l⟩ = true) (ha : a ∉ l) (u : Int) : (ofN (insN a l) u).filter (fun x => x != a) = ofN l u ∧ (ofN (insN a l) u).length = (ofN l u).length + (if a.unit = u then 1 else 0) := by
  have h := ofL_ins (d := ⟨K, l⟩) hd ha u
  have h : ofN (insN a l) u = if a.unit = u then insN a (ofN l u) else ofN l u := h
  have hs : (ofN l u).Pairwise (fun a b => ltN a b = true) := ofL_sorted (d := ⟨K, l⟩) hd u
  have hna : a ∉ ofN l u := fun hm => ha ((List.mem_filter.1 hm).1)
  rw [h]
  by_cases hu : a.unit = u
  · rw [if_pos hu, if_pos hu, insN_length]
    exact ⟨insN_without hs hna, rfl⟩
  · rw [if_neg hu, if_neg hu]
    refine ⟨List.filter_eq_self.2 fun x hx => ?_, rfl⟩
    simp only [bne_iff_ne, ne_eq]
    intro e
    rw [e] at hx
    exact hna hx
theorem any_mem {l : List VNote} {a : VNote} : (l.any fun x => x == a) = true ↔ a ∈ l := by
  rw [List.any_eq_true]
  constructor
  · rintro ⟨x, hx, h⟩
    rw [beq_iff_eq] at h
    rw [← h]
    exact hx
  · intro h
    exact ⟨a, h, beq_self_eq_true _⟩
set_option maxRecDepth 100000 in
set_option maxHeartbeats 16000000 in
theorem lawA (z : Int) (xv : Value) (N : Nat) (f : Nat → Nat → Int) (gy gz : Nat → Int) (id : Int) (w : World) (hz : -9223372036854775808 ≤ z ∧ z ≤ 9223372036854775807) (hid : -9223372036854775808 ≤ id ∧ id ≤ 9223372036854775807)
    (hgy : ∀ k, k < 4 → -9223372036854775808 ≤ gy k ∧ gy k ≤ 9223372036854775807) (hgz : ∀ k, k < 4 → -9223372036854775808 ≤ gz k ∧ gz k ≤ 9223372036854775807) (hX : FourAt w.heap.size w xv N f) (hT : Rounds w) :
    Calls Tryz.prog 8 #[.int .i64 z, xv, fourV gy, fourV gz, .int .i64 id] w fun e w' => e = .returned (.bool true) ∧ Below w.heap.size w w' := by
  have hL := ((LiveP.start hT).alloc (.cells #[.int .i64 (gy 0), .int .i64 (gy 1), .int .i64 (gy 2), .int .i64 (gy 3)] 66)).add (keep_box (box_new w _ _))
  have hL := (hL.alloc (.cells #[.int .i64 (gz 0), .int .i64 (gz 1), .int .i64 (gz 2), .int .i64 (gz 3)] 66)).add (keep_box (box_new (w.alloc (.cells #[.int .i64 (gy 0), .int .i64 (gy 1), .int .i64 (gy 2), .int .i64 (gy 3)] 66)) _ _))
  rw [World.size_alloc] at hL
  have HX := Lib.hid hX
  have HZ := Lib.hid hz
  have HU := Lib.hid (fun W => unit_any id W hid.1 hid.2)
  have hub := unitZ_bd id
  obtain ⟨u, hu⟩ : ∃ u, unitZ id = u := ⟨_, rfl⟩
  rw [hu] at HU hub
  have HOa := Lib.hid (fun W => one_any gy W hgy)
  have HOb := Lib.hid (fun W => one_any gz W hgz)
  have HNa := Lib.hid (one_note gy)
  obtain ⟨a, ha⟩ : ∃ a, oneZ gy = a := ⟨_, rfl⟩
  obtain ⟨b, hb⟩ : ∃ b, oneZ gz = b := ⟨_, rfl⟩
  rw [ha] at HOa HNa
  rw [hb] at HOb
  have HL0 := Lib.hid hL
  clear hL hX hz hid hu hgy hgz hT ha hb
  go_enter Tryz.func8, Tryz.ntmps8
  go_wp2_with fail
  refine (vsane_any _ HL0.out.rounds).mono ?_
  rintro e w1 ⟨rfl, hb⟩
  have HL1 := Lib.hid (HL0.out.step hb)
  clear hb HL0
  go_wp2_with fail
  refine (made_any z xv N f w1 HZ.out (HX.out.later HL1.out.below)).mono ?_
  rintro e w2 ⟨nv, rfl, ho, hb⟩
  obtain ⟨hd1, hd2, hd3, hd4⟩ := madeD_ok (keyB_length z) N f
  obtain ⟨K, hK⟩ : ∃ K, K = keyB z := ⟨_, rfl⟩
  obtain ⟨l, hl⟩ : ∃ l, l = (madeD (keyB z) N f).notes := ⟨_, rfl⟩
  have hdo : dosB ⟨K, l⟩ = true := by rw [hK, hl]; exact made_dos z N f
  have hln : l.length ≤ 12 := by rw [hl]; exact hd3
  rw [← hl] at ho
  rw [← hK]
  clear hd1 hd2 hd3 hd4 hK hl HX HZ
  obtain ⟨ra, rc, hnv, hrc1, hrc2⟩ := ho.shape
  subst hnv
  generalize hrn : l.length = rn at *
  have HRn := Lib.hid hrn
  have HDo := Lib.hid hdo
  have hL := (((HL1.out.step hb).add (keep_rows (ho.rows noteOk))).alloc (.cells #[.string (bs K), .slice ra rn rc] 26)).add (keep_box (box_new w2 _ _))
  clear hrn hdo hb ho HL1
  have y0 := BoxN.cell (show (BoxN w.heap.size 66 #[.int .i64 (gy 0), .int .i64 (gy 1), .int .i64 (gy 2), .int .i64 (gy 3)]) _ from hL.get (by simp)) 0 _ rfl
  have y1 := BoxN.cell (show (BoxN w.heap.size 66 #[.int .i64 (gy 0), .int .i64 (gy 1), .int .i64 (gy 2), .int .i64 (gy 3)]) _ from hL.get (by simp)) 1 _ rfl
  have y2 := BoxN.cell (show (BoxN w.heap.size 66 #[.int .i64 (gy 0), .int .i64 (gy 1), .int .i64 (gy 2), .int .i64 (gy 3)]) _ from hL.get (by simp)) 2 _ rfl
  have y3 := BoxN.cell (show (BoxN w.heap.size 66 #[.int .i64 (gy 0), .int .i64 (gy 1), .int .i64 (gy 2), .int .i64 (gy 3)]) _ from hL.get (by simp)) 3 _ rfl
  have HL2 := Lib.hid hL
  clear hL
  go_wp2_with fail
  clear y0 y1 y2 y3
  refine (HOa.out _).mono ?_
  rintro e w3 ⟨rfl, hb⟩
  have hL := ((HL2.out.step hb).alloc (.cells (noteR a) 48)).add (P := NoteN w3.heap.size a) (keep_note (box_new w3 _ _))
  clear hb HL2
  have z0 := BoxN.cell (show (BoxN (w.heap.size + 1) 66 #[.int .i64 (gz 0), .int .i64 (gz 1), .int .i64 (gz 2), .int .i64 (gz 3)]) _ from hL.get (by simp)) 0 _ rfl
  have z1 := BoxN.cell (show (BoxN (w.heap.size + 1) 66 #[.int .i64 (gz 0), .int .i64 (gz 1), .int .i64 (gz 2), .int .i64 (gz 3)]) _ from hL.get (by simp)) 1 _ rfl
  have z2 := BoxN.cell (show (BoxN (w.heap.size + 1) 66 #[.int .i64 (gz 0), .int .i64 (gz 1), .int .i64 (gz 2), .int .i64 (gz 3)]) _ from hL.get (by simp)) 2 _ rfl
  have z3 := BoxN.cell (show (BoxN (w.heap.size + 1) 66 #[.int .i64 (gz 0), .int .i64 (gz 1), .int .i64 (gz 2), .int .i64 (gz 3)]) _ from hL.get (by simp)) 3 _ rfl
  have HL3 := Lib.hid hL
  clear hL
  go_wp2_with fail
  clear z0 z1 z2 z3
  refine (HOb.out _).mono ?_
  rintro e w4 ⟨rfl, hb⟩
  have hL := ((HL3.out.step hb).alloc (.cells (noteR b) 48)).add (P := NoteN w4.heap.size b) (keep_note (box_new w4 _ _))
  clear hb HL3
  obtain ⟨V4, hV4⟩ : ∃ V4, V4 = w4.alloc (.cells (noteR b) 48) := ⟨_, rfl⟩
  rw [← hV4] at hL
  have HL4 := Lib.hid hL
  clear hL
  go_wp2
  rw [← hV4]
  clear hV4
  go_loopw [15, 16] (fun hv i wr => ∃ k : Nat, k ≤ rn ∧ i = .int .i64 k ∧ hv = .bool ((l.take k).any fun x => x == a) ∧ Hid (Below V4.heap.size V4 wr)) (fun _ i _ => rn - (intOf i).toNat)
  case atStart => exact ⟨0, Nat.zero_le _, rfl, by simp, Lib.hid (Below.refl _ _)⟩
  case round =>
    obtain ⟨k, hk, rfl, rfl, HB⟩ := hrel
    have hL := HL4.out.step HB.out
    by_cases h1 : k < rn
    · have ji : (k : Int) < (rn : Int) := by omega
      have j0 : 0 ≤ (k : Int) := by omega
      obtain ⟨x, hx⟩ : ∃ x, x = l.getD k default := ⟨_, rfl⟩
      have hget : l[k]? = some x := by rw [hx, List.getD_eq_getElem?_getD, List.getElem?_eq_getElem (by rw [HRn.out]; exact h1)]; rfl
      obtain ⟨gb, off, hae, hgb, hat⟩ := notes_at (show RowsAt noteK _ _ _ _ from (show (RowsN noteK (.slice ra rn rc) l) _ from hL.get (by simp))) k x hget
      subst hae
      have HQ : Hid (∀ W, wr.grownBy W none → NoteAt W gb (off + k * 4) x ∧ (W.cell? ⟨w2.heap.size, 0, none⟩ = some (.string (bs K)) ∧ W.cell? ⟨w2.heap.size, 1, none⟩ = some (.slice (some ⟨gb, off, none⟩) rn rc)) ∧ W.cell? ⟨w3.heap.size, 0, none⟩ = some (.int .i64 a.unit) ∧ W.cell? ⟨w3.heap.size, 1, none⟩ = some (.int .i64 a.day) ∧ W.cell? ⟨w3.heap.size, 2, none⟩ = some (.int .i64 a.kind) ∧ W.cell? ⟨w3.heap.size, 3, none⟩ = some (.string (bs a.text))) := fun W hW => by
        have hL2 := hL.step (grown_below hW)
        obtain ⟨p0, p1, p2, p3⟩ := hat
        exact ⟨⟨hW.cell p0 (by simp), hW.cell p1 (by simp), hW.cell p2 (by simp), hW.cell p3 (by simp)⟩, ⟨BoxN.cell (show (BoxN w2.heap.size 26 #[.string (bs K), .slice (some ⟨gb, off, none⟩) rn rc]) _ from hL2.get (by simp)) 0 _ rfl, BoxN.cell (show (BoxN w2.heap.size 26 #[.string (bs K), .slice (some ⟨gb, off, none⟩) rn rc]) _ from hL2.get (by simp)) 1 _ rfl⟩, NoteN.cells (show (NoteN w3.heap.size a) _ from hL2.get (by simp))⟩
      have HS := Lib.hid (any_take_succ l (fun x => x == a) k (by rw [HRn.out]; exact h1))
      rw [← hx] at HS
      have d1' := BoxN.cell (show (BoxN w2.heap.size 26 #[.string (bs K), .slice (some ⟨gb, off, none⟩) rn rc]) _ from hL.get (by simp)) 1 _ rfl
      have hnq : ∀ W, (binOp .eql 48 (noteV x) (noteV a)).run Tryz.prog W = .ok (.bool (x == a)) W := fun W => run_eqlNote x a W
      clear hx hget hat hL
      cases hany : (l.take k).any fun x => x == a
      · have HS1 : Hid (((l.take (k + 1)).any fun x => x == a) = (x == a)) := by show _ = _; rw [HS.out, hany, Bool.false_or]
        clear hany HS
        go_wp2
        clear d1'
        refine wp_region_calm ⟨[], fun k v _ => True, fun _ => [], 99, none, 1000⟩ (by kernel_rfl) (by kernel_rfl) (by kernel_rfl) (fun g h => by cases h) (fun k hk v W W' c h hg hc => h) ?_
        iterate 11 (refine calm_quiet (v := ?_) (by rfl) (by rfl) (fun W hW hD => ?_) ?_; rotate_left; (· (obtain ⟨⟨x0, x1, x2, x3⟩, ⟨z0, z1⟩, y0, y1, y2, y3⟩ := HQ.out W hW; clear hD hW; go_simp; try with_reducible rfl)); simp only [Act.put, List.setIfInBounds_toArray, List.set_cons_zero, List.set_cons_succ, Nat.reduceAdd, Nat.zero_add])
        refine calm_nil fun W hW hF => ?_
        have HBf := Lib.hid (HB.out.trans ((grown_below hW).mono HB.out.size))
        clear hF hW HQ
        go_wp2
        go_roundw
        case rel => exact ⟨k + 1, by omega, by go_num, by rw [HS1.out], HBf⟩
        case measure => simp [intOf]; omega
      · have HS1 : Hid (((l.take (k + 1)).any fun x => x == a) = true) := by show _ = _; rw [HS.out, hany, Bool.true_or]
        clear hany HS
        go_wp2
        clear d1'
        refine wp_region_calm ⟨[], fun k v _ => True, fun _ => [], 99, none, 1000⟩ (by kernel_rfl) (by kernel_rfl) (by kernel_rfl) (fun g h => by cases h) (fun k hk v W W' c h hg hc => h) ?_
        iterate 2 (refine calm_quiet (v := ?_) (by rfl) (by rfl) (fun W hW hD => ?_) ?_; rotate_left; (· (clear hD hW; go_simp; try with_reducible rfl)); simp only [Act.put, List.setIfInBounds_toArray, List.set_cons_zero, List.set_cons_succ, Nat.reduceAdd, Nat.zero_add])
        iterate 7 (refine calm_skip (by rfl) (by rfl) ?_; simp only [Act.put, List.setIfInBounds_toArray, List.set_cons_zero, List.set_cons_succ, Nat.reduceAdd, Nat.zero_add])
        iterate 2 (refine calm_quiet (v := ?_) (by rfl) (by rfl) (fun W hW hD => ?_) ?_; rotate_left; (· (clear hD hW; go_simp; try with_reducible rfl)); simp only [Act.put, List.setIfInBounds_toArray, List.set_cons_zero, List.set_cons_succ, Nat.reduceAdd, Nat.zero_add])
        refine calm_nil fun W hW hF => ?_
        have HBf := Lib.hid (HB.out.trans ((grown_below hW).mono HB.out.size))
        clear hF hW HQ
        go_wp2
        go_roundw
        case rel => exact ⟨k + 1, by omega, by go_num, by rw [HS1.out], HBf⟩
        case measure => simp [intOf]; omega
    · obtain rfl : k = rn := by omega
      have ji : ¬ ((k : Int) < (k : Int)) := by omega
      rw [List.take_of_length_le (by rw [HRn.out]; exact Nat.le_refl _)]
      have HLr := Lib.hid hL
      clear hL h1 hk HB HL4

      have hL := HLr.out
      have d0 := BoxN.cell (show (BoxN w2.heap.size 26 #[.string (bs K), .slice ra k rc]) _ from hL.get (by simp)) 0 _ rfl
      have d1 := BoxN.cell (show (BoxN w2.heap.size 26 #[.string (bs K), .slice ra k rc]) _ from hL.get (by simp)) 1 _ rfl
      obtain ⟨a0, a1, a2, a3⟩ := NoteN.cells (show (NoteN w3.heap.size a) _ from hL.get (by simp))
      have HL5 := Lib.hid hL
      clear hL
      clear HLr
      cases hany : l.any fun x => x == a
      rotate_left
      · have HAd : Hid (addN ⟨K, l⟩ a = (⟨[], []⟩, 400)) := addN_old (any_mem.1 hany)
        clear hany
        go_wp2_with fail
        clear d0 d1 a0 a1 a2 a3
        refine (vAdd_any K _ l a _ (show (RowsN noteK (.slice ra k rc) l) _ from HL5.out.get (by simp)) (by rw [HRn.out]; omega)).mono ?_
        rintro e w5 ⟨nv5, rfl, ho, hb⟩
        rw [HAd.out] at ho ⊢
        simp only at ho ⊢
        obtain ⟨ma, mc, hx, _, _⟩ := ho.shape
        subst hx
        have HBz := Lib.hid ((HL5.out.step hb).alloc (.cells #[.string (bs []), .slice ma ([] : List VNote).length mc] 26)).below
        clear hb ho
        go_wp2
        go_ret
        exact ⟨rfl, HBz.out⟩

      have hna : a ∉ l := fun h => by rw [any_mem.2 h] at hany; cases hany
      obtain ⟨hnew, hdm⟩ := addN_new (d := ⟨K, l⟩) HDo.out HNa.out (by show l.length < 60; rw [HRn.out]; omega) hna
      have HAd : Hid (addN ⟨K, l⟩ a = (⟨K, insN a l⟩, 0)) := hnew
      have HDm := Lib.hid hdm
      have HNn := Lib.hid hna
      clear hnew hdm hna hany
      go_wp2_with fail
      clear d0 d1 a0 a1 a2 a3
      refine (vAdd_any K _ l a _ (show (RowsN noteK (.slice ra k rc) l) _ from HL5.out.get (by simp)) (by rw [HRn.out]; omega)).mono ?_
      rintro e w5 ⟨nv5, rfl, ho, hb⟩
      rw [HAd.out] at ho ⊢
      simp only at ho ⊢
      obtain ⟨ma, mc, hx, hmc1, hmc2⟩ := ho.shape
      subst hx
      rw [insN_length, HRn.out] at ho hmc1 ⊢
      have hL := (((HL5.out.step hb).add (P := RowsN noteK (.slice ma (k + 1) mc) (insN a l)) (keep_rows (by have := ho.rows noteOk; exact this))).alloc (.cells #[.string (bs K), .slice ma (k + 1) mc] 26)).add (P := BoxN w5.heap.size 26 #[.string (bs K), .slice ma (k + 1) mc]) (keep_box (box_new w5 _ _))
      clear hb ho HL5
      have HL6 := Lib.hid hL
      clear hL
      go_wp2_with fail
      refine (HU.out _).mono ?_
      rintro e w6 ⟨rfl, hb⟩
      have hL := HL6.out.step hb
      clear hb HL6
      have d0 := BoxN.cell (show (BoxN w2.heap.size 26 #[.string (bs K), .slice ra k rc]) _ from hL.get (by simp)) 0 _ rfl
      have d1 := BoxN.cell (show (BoxN w2.heap.size 26 #[.string (bs K), .slice ra k rc]) _ from hL.get (by simp)) 1 _ rfl
      have HL7 := Lib.hid hL
      clear hL
      obtain ⟨S, hS⟩ : ∃ S, S = saltB K u := ⟨_, rfl⟩
      have HPg1 : Hid (pageE ⟨K, l⟩ u = (⟨u, ofN l u, S, proofL (sealsL ⟨K, l⟩) u.toNat⟩, 0)) := by show _ = _; rw [pageE_ok (by rw [HDo.out]; exact unit_in hub), hS]; rfl
      have HPg2 : Hid (pageE ⟨K, insN a l⟩ u = (⟨u, ofN (insN a l) u, S, proofL (sealsL ⟨K, insN a l⟩) u.toNat⟩, 0)) := by show _ = _; rw [pageE_ok (by rw [HDm.out]; exact unit_in hub), hS]; rfl
      clear hS
      go_wp2_with fail
      clear d0 d1
      refine (vPage_any K _ l u _ (show (RowsN noteK (.slice ra k rc) l) _ from HL7.out.get (by simp)) (by rw [HRn.out]; omega) HL7.out.rounds).mono ?_
      rintro e w7 ⟨nv7, pv7, rfl, hn, hp, hb⟩
      rw [HPg1.out] at hn hp ⊢
      simp only at hn hp ⊢
      obtain ⟨xa, xc, hx, hxc1, hxc2⟩ := hn.shape
      obtain ⟨pa, pc, hpx, _, _⟩ := ownS_shape hp
      subst hx hpx
      generalize hxn : (ofN l u).length = xn at *
      have HXn := Lib.hid hxn
      clear hxn
      generalize (proofL (sealsL ⟨K, l⟩) u.toNat).length = pn at *
      have hL := (((HL7.out.step hb).add (P := RowsN noteK (.slice xa xn xc) (ofN l u)) (keep_rows (hn.rows noteOk))).alloc (.cells #[.int .i64 u, .slice xa xn xc, .string (bs S), .slice pa pn pc] 39)).add (P := BoxN w7.heap.size 39 #[.int .i64 u, .slice xa xn xc, .string (bs S), .slice pa pn pc]) (keep_box (box_new w7 _ _))
      clear hb hn hp HL7
      have m0 := BoxN.cell (show (BoxN w5.heap.size 26 #[.string (bs K), .slice ma (k + 1) mc]) _ from hL.get (by simp)) 0 _ rfl
      have m1 := BoxN.cell (show (BoxN w5.heap.size 26 #[.string (bs K), .slice ma (k + 1) mc]) _ from hL.get (by simp)) 1 _ rfl
      have HL8 := Lib.hid hL
      clear hL
      go_wp2_with fail
      clear m0 m1
      refine (vPage_any K _ (insN a l) u _ (show (RowsN noteK (.slice ma (k + 1) mc) (insN a l)) _ from HL8.out.get (by simp)) (by rw [insN_length, HRn.out]; omega) HL8.out.rounds).mono ?_
      rintro e w8 ⟨nv8, pv8, rfl, hn, hp, hb⟩
      rw [HPg2.out] at hn hp ⊢
      simp only at hn hp ⊢
      obtain ⟨ya, yc, hx, hyc1, hyc2⟩ := hn.shape
      obtain ⟨qa, qc, hpx, _, _⟩ := ownS_shape hp
      subst hx hpx
      obtain ⟨hwo, hwl⟩ := without_plain (K := K) (l := l) (a := a) HDo.out HNn.out u
      have HWo := Lib.hid hwo
      generalize hyn : (ofN (insN a l) u).length = yn at *
      have HYn := Lib.hid hyn
      rw [HXn.out] at hwl
      have HWl := Lib.hid hwl
      have hxl : xn ≤ 12 := by have := ofN_length l u; rw [HXn.out, HRn.out] at this; omega
      have hyl : yn ≤ xn + 1 := by rw [hwl]; split <;> omega
      clear hyn hwo hwl
      generalize (proofL (sealsL ⟨K, insN a l⟩) u.toNat).length = qn at *
      have hL := (((HL8.out.step hb).add (P := RowsN noteK (.slice ya yn yc) (ofN (insN a l) u)) (keep_rows (hn.rows noteOk))).alloc (.cells #[.int .i64 u, .slice ya yn yc, .string (bs S), .slice qa qn qc] 39)).add (P := BoxN w8.heap.size 39 #[.int .i64 u, .slice ya yn yc, .string (bs S), .slice qa qn qc]) (keep_box (box_new w8 _ _))
      clear hb hn hp HL8
      obtain ⟨V9, hV9⟩ : ∃ V9, V9 = w8.alloc (.cells #[.int .i64 u, .slice ya yn yc, .string (bs S), .slice qa qn qc] 39) := ⟨_, rfl⟩
      rw [← hV9] at hL
      have d0 := BoxN.cell (show (BoxN w2.heap.size 26 #[.string (bs K), .slice ra k rc]) _ from hL.get (by simp)) 0 _ rfl
      have d1 := BoxN.cell (show (BoxN w2.heap.size 26 #[.string (bs K), .slice ra k rc]) _ from hL.get (by simp)) 1 _ rfl
      have m0 := BoxN.cell (show (BoxN w5.heap.size 26 #[.string (bs K), .slice ma (k + 1) mc]) _ from hL.get (by simp)) 0 _ rfl
      have m1 := BoxN.cell (show (BoxN w5.heap.size 26 #[.string (bs K), .slice ma (k + 1) mc]) _ from hL.get (by simp)) 1 _ rfl
      have p0 := BoxN.cell (show (BoxN w7.heap.size 39 #[.int .i64 u, .slice xa xn xc, .string (bs S), .slice pa pn pc]) _ from hL.get (by simp)) 0 _ rfl
      have p1 := BoxN.cell (show (BoxN w7.heap.size 39 #[.int .i64 u, .slice xa xn xc, .string (bs S), .slice pa pn pc]) _ from hL.get (by simp)) 1 _ rfl
      have p2 := BoxN.cell (show (BoxN w7.heap.size 39 #[.int .i64 u, .slice xa xn xc, .string (bs S), .slice pa pn pc]) _ from hL.get (by simp)) 2 _ rfl
      have p3 := BoxN.cell (show (BoxN w7.heap.size 39 #[.int .i64 u, .slice xa xn xc, .string (bs S), .slice pa pn pc]) _ from hL.get (by simp)) 3 _ rfl
      have q0 := BoxN.cell (show (BoxN w8.heap.size 39 #[.int .i64 u, .slice ya yn yc, .string (bs S), .slice qa qn qc]) _ from hL.get (by simp)) 0 _ rfl
      have q1 := BoxN.cell (show (BoxN w8.heap.size 39 #[.int .i64 u, .slice ya yn yc, .string (bs S), .slice qa qn qc]) _ from hL.get (by simp)) 1 _ rfl
      have q2 := BoxN.cell (show (BoxN w8.heap.size 39 #[.int .i64 u, .slice ya yn yc, .string (bs S), .slice qa qn qc]) _ from hL.get (by simp)) 2 _ rfl
      have q3 := BoxN.cell (show (BoxN w8.heap.size 39 #[.int .i64 u, .slice ya yn yc, .string (bs S), .slice qa qn qc]) _ from hL.get (by simp)) 3 _ rfl
      have HL9 := Lib.hid hL
      clear hL
      rw [hV9] at d0 d1 m0 m1 p0 p1 p2 p3 q0 q1 q2 q3
      have wk : IntKind.i64.wrap ((k : Int) + 1) = (k : Int) + 1 := IntWalk.i64_in _ (by omega)
      have hss : ((bs S).toList != (bs S).toList) = false := by simp
      go_wp2_with fail
      clear d0 d1 m0 m1 p0 p1 p2 p3 q0 q1 q2 q3
      rw [← hV9]
      clear hV9
      have hfl : ∀ k2, ((((ofN (insN a l) u).take k2).filter fun x => x != a)).length ≤ 13 := fun k2 => Nat.le_trans (List.length_filter_le _ _) (by rw [List.length_take, HYn.out]; omega)
      have HFl := Lib.hid hfl
      clear hfl wk hss ji
      go_loopw [24, 25] (fun v i wr => ∃ k2 : Nat, k2 ≤ yn ∧ i = .int .i64 k2 ∧ (∃ sa sc, v = .slice sa (((ofN (insN a l) u).take k2).filter fun x => x != a).length sc) ∧ Hid (OwnK noteK V9.heap.size wr v (((ofN (insN a l) u).take k2).filter fun x => x != a)) ∧ Hid (Below V9.heap.size V9 wr)) (fun _ i _ => yn - (intOf i).toNat)
      case atStart => exact ⟨0, Nat.zero_le _, rfl, ⟨_, _, rfl⟩, Lib.hid (OwnK.nil _ _), Lib.hid (Below.refl _ _)⟩
      case round =>
        obtain ⟨k2, hk2, rfl, ⟨sa, sc, rfl⟩, HO, HB⟩ := hrel
        have hL := HL9.out.step HB.out
        by_cases h1 : k2 < yn
        · have ji : (k2 : Int) < (yn : Int) := by omega
          have j0 : 0 ≤ (k2 : Int) := by omega
          obtain ⟨x, hx⟩ : ∃ x, x = (ofN (insN a l) u).getD k2 default := ⟨_, rfl⟩
          have hget : (ofN (insN a l) u)[k2]? = some x := by rw [hx, List.getD_eq_getElem?_getD, List.getElem?_eq_getElem (by rw [HYn.out]; exact h1)]; rfl
          obtain ⟨gb, off, hae, hgb, hat⟩ := notes_at (show RowsAt noteK _ _ _ _ from (show (RowsN noteK (.slice ya yn yc) (ofN (insN a l) u)) _ from hL.get (by simp))) k2 x hget
          subst hae
          have HQ : Hid (∀ W, wr.grownBy W none → NoteAt W gb (off + k2 * 4) x ∧ W.cell? ⟨w8.heap.size, 1, none⟩ = some (.slice (some ⟨gb, off, none⟩) yn yc) ∧ W.cell? ⟨w3.heap.size, 0, none⟩ = some (.int .i64 a.unit) ∧ W.cell? ⟨w3.heap.size, 1, none⟩ = some (.int .i64 a.day) ∧ W.cell? ⟨w3.heap.size, 2, none⟩ = some (.int .i64 a.kind) ∧ W.cell? ⟨w3.heap.size, 3, none⟩ = some (.string (bs a.text))) := fun W hW => by
            have hL2 := hL.step (grown_below hW)
            obtain ⟨p0, p1, p2, p3⟩ := hat
            exact ⟨⟨hW.cell p0 (by simp), hW.cell p1 (by simp), hW.cell p2 (by simp), hW.cell p3 (by simp)⟩, BoxN.cell (show (BoxN w8.heap.size 39 #[.int .i64 u, .slice (some ⟨gb, off, none⟩) yn yc, .string (bs S), .slice qa qn qc]) _ from hL2.get (by simp)) 1 _ rfl, NoteN.cells (show (NoteN w3.heap.size a) _ from hL2.get (by simp))⟩
          have HS := Lib.hid (filter_at (fun x => x != a) (ofN (insN a l) u) k2 (by rw [HYn.out]; exact h1))
          rw [← hx] at HS
          have q1' := BoxN.cell (show (BoxN w8.heap.size 39 #[.int .i64 u, .slice (some ⟨gb, off, none⟩) yn yc, .string (bs S), .slice qa qn qc]) _ from hL.get (by simp)) 1 _ rfl
          have hnq : ∀ W, (binOp .neq 48 (noteV x) (noteV a)).run Tryz.prog W = .ok (.bool (x != a)) W := fun W => run_neqNote x a W
          have hfk := HFl.out k2
          generalize (((ofN (insN a l) u).take k2).filter fun x => x != a) = T at *
          clear hx hget hat hL
          cases hxa : x != a
          · have HS1 : Hid ((((ofN (insN a l) u).take (k2 + 1)).filter fun x => x != a) = T) := by show _ = _; rw [HS.out]; simp [hxa]
            rw [hxa] at hnq
            clear hxa HS
            go_wp2
            clear q1'
            refine wp_region_calm ⟨[], fun k v _ => True, fun _ => [], 99, none, 1000⟩ (by kernel_rfl) (by kernel_rfl) (by kernel_rfl) (fun g h => by cases h) (fun k hk v W W' c h hg hc => h) ?_
            iterate 7 (refine calm_quiet (v := ?_) (by rfl) (by rfl) (fun W hW hD => ?_) ?_; rotate_left; (· (obtain ⟨⟨x0, x1, x2, x3⟩, z1, y0, y1, y2, y3⟩ := HQ.out W hW; clear hD hW; go_simp; try with_reducible rfl)); simp only [Act.put, List.setIfInBounds_toArray, List.set_cons_zero, List.set_cons_succ, Nat.reduceAdd, Nat.zero_add])
            refine calm_nil fun W hW hF => ?_
            have HBf := Lib.hid (HB.out.trans ((grown_below hW).mono HB.out.size))
            have HOf := Lib.hid (OwnK.kept HO.out hW (fun g h => by cases h))
            clear hF hW HQ HO HB
            go_wp2
            go_roundw
            case rel => exact ⟨k2 + 1, by omega, by go_num, ⟨_, _, by rw [HS1.out]⟩, by rw [HS1.out]; exact HOf, HBf⟩
            case measure => simp [intOf]; omega
          · have HS1 : Hid ((((ofN (insN a l) u).take (k2 + 1)).filter fun x => x != a) = T ++ [x]) := by show _ = _; rw [HS.out]; simp [hxa]
            rw [hxa] at hnq
            clear hxa HS
            go_wp2
            clear q1'
            refine wp_region_calm ⟨[], fun k v _ => True, fun _ => [], 99, none, 1000⟩ (by kernel_rfl) (by kernel_rfl) (by kernel_rfl) (fun g h => by cases h) (fun k hk v W W' c h hg hc => h) ?_
            iterate 7 (refine calm_quiet (v := ?_) (by rfl) (by rfl) (fun W hW hD => ?_) ?_; rotate_left; (· (obtain ⟨⟨x0, x1, x2, x3⟩, z1, y0, y1, y2, y3⟩ := HQ.out W hW; clear hD hW; go_simp; try with_reducible rfl)); simp only [Act.put, List.setIfInBounds_toArray, List.set_cons_zero, List.set_cons_succ, Nat.reduceAdd, Nat.zero_add])
            refine calm_nil fun W hW hF => ?_
            have HBf := Lib.hid (HB.out.trans ((grown_below hW).mono HB.out.size))
            have HOf := Lib.hid (OwnK.kept HO.out hW (fun g h => by cases h))
            obtain ⟨⟨x0, x1, x2, x3⟩, z1, _⟩ := HQ.out W hW
            clear hF hW HQ HO HB
            have HO1 := Lib.hid (OwnK.kept HOf.out (World.grownBy_alloc W (.cells (noteR x) 48) none) (fun g h => by cases h))
            have HB1 := Lib.hid (HBf.out.alloc HBf.out.size (.cells (noteR x) 48))
            have hzz : V9.heap.size ≤ (W.alloc (.cells (noteR x) 48)).heap.size := HB1.out.size
            go_wp2_with (at_builtin; refine append_KK noteOk rfl _ _ rfl V9.heap.size _ _ _ T [x] rfl rfl HO1.out (rowN_lit W x _ rfl) (by simp; omega) hzz V9 HB1.out ?_; intro v' w9 hown' hgrow hbelow; obtain ⟨a', c', hsh, _, _⟩ := hown'.shape; rw [List.length_append, List.length_singleton] at hsh; subst hsh)
            have HOg := Lib.hid hown'
            have HBg := Lib.hid hbelow
            clear hown' hgrow hbelow x0 x1 x2 x3 z1 HO1 HB1
            go_roundw
            case rel => exact ⟨k2 + 1, by omega, by go_num, ⟨_, _, by rw [HS1.out, List.length_append, List.length_singleton]⟩, by rw [HS1.out]; exact HOg, HBg⟩
            case measure => simp [intOf]; omega
        · obtain rfl : k2 = yn := by omega
          have ji : ¬ ((k2 : Int) < (k2 : Int)) := by omega
          rw [List.take_of_length_le (by rw [HYn.out]; exact Nat.le_refl _)] at HO ⊢
          rw [HWo.out] at HO ⊢
          rw [HXn.out]
          have HLs := Lib.hid (hL.add (P := OwnKN noteK V9.heap.size (.slice sa xn sc) (ofN l u)) (keep_own (by have := HO.out; rw [HXn.out] at this; exact this)))
          clear hL h1 hk2 HO HB HFl HL9 HWo

          have hL := HLs.out
          have p0 := BoxN.cell (show (BoxN w7.heap.size 39 #[.int .i64 u, .slice xa xn xc, .string (bs S), .slice pa pn pc]) _ from hL.get (by simp)) 0 _ rfl
          have p1 := BoxN.cell (show (BoxN w7.heap.size 39 #[.int .i64 u, .slice xa xn xc, .string (bs S), .slice pa pn pc]) _ from hL.get (by simp)) 1 _ rfl
          have p2 := BoxN.cell (show (BoxN w7.heap.size 39 #[.int .i64 u, .slice xa xn xc, .string (bs S), .slice pa pn pc]) _ from hL.get (by simp)) 2 _ rfl
          have p3 := BoxN.cell (show (BoxN w7.heap.size 39 #[.int .i64 u, .slice xa xn xc, .string (bs S), .slice pa pn pc]) _ from hL.get (by simp)) 3 _ rfl
          have q0 := BoxN.cell (show (BoxN w8.heap.size 39 #[.int .i64 u, .slice ya k2 yc, .string (bs S), .slice qa qn qc]) _ from hL.get (by simp)) 0 _ rfl
          have q1 := BoxN.cell (show (BoxN w8.heap.size 39 #[.int .i64 u, .slice ya k2 yc, .string (bs S), .slice qa qn qc]) _ from hL.get (by simp)) 1 _ rfl
          have q2 := BoxN.cell (show (BoxN w8.heap.size 39 #[.int .i64 u, .slice ya k2 yc, .string (bs S), .slice qa qn qc]) _ from hL.get (by simp)) 2 _ rfl
          have q3 := BoxN.cell (show (BoxN w8.heap.size 39 #[.int .i64 u, .slice ya k2 yc, .string (bs S), .slice qa qn qc]) _ from hL.get (by simp)) 3 _ rfl
          have HL10 := Lib.hid hL
          clear hL
          clear HLs
          go_wp2_with fail
          clear p0 p1 p2 p3 q0 q1 q2 q3
          refine (sameNotes_any _ _ (ofN l u) (ofN l u) _ (OwnK.rows noteOk (show OwnK noteK V9.heap.size _ (.slice sa xn sc) (ofN l u) from (show (OwnKN noteK V9.heap.size (.slice sa xn sc) (ofN l u)) _ from HL10.out.get (by simp)))) (show (RowsN noteK (.slice xa xn xc) (ofN l u)) _ from HL10.out.get (by simp))).mono ?_
          rintro e w10 ⟨rfl, hb⟩
          rw [beq_self_eq_true]
          have hL := HL10.out.step hb
          clear hb HL10
          have p0 := BoxN.cell (show (BoxN w7.heap.size 39 #[.int .i64 u, .slice xa xn xc, .string (bs S), .slice pa pn pc]) _ from hL.get (by simp)) 0 _ rfl
          have p1 := BoxN.cell (show (BoxN w7.heap.size 39 #[.int .i64 u, .slice xa xn xc, .string (bs S), .slice pa pn pc]) _ from hL.get (by simp)) 1 _ rfl
          have p2 := BoxN.cell (show (BoxN w7.heap.size 39 #[.int .i64 u, .slice xa xn xc, .string (bs S), .slice pa pn pc]) _ from hL.get (by simp)) 2 _ rfl
          have p3 := BoxN.cell (show (BoxN w7.heap.size 39 #[.int .i64 u, .slice xa xn xc, .string (bs S), .slice pa pn pc]) _ from hL.get (by simp)) 3 _ rfl
          have q0 := BoxN.cell (show (BoxN w8.heap.size 39 #[.int .i64 u, .slice ya k2 yc, .string (bs S), .slice qa qn qc]) _ from hL.get (by simp)) 0 _ rfl
          have q1 := BoxN.cell (show (BoxN w8.heap.size 39 #[.int .i64 u, .slice ya k2 yc, .string (bs S), .slice qa qn qc]) _ from hL.get (by simp)) 1 _ rfl
          have q2 := BoxN.cell (show (BoxN w8.heap.size 39 #[.int .i64 u, .slice ya k2 yc, .string (bs S), .slice qa qn qc]) _ from hL.get (by simp)) 2 _ rfl
          have q3 := BoxN.cell (show (BoxN w8.heap.size 39 #[.int .i64 u, .slice ya k2 yc, .string (bs S), .slice qa qn qc]) _ from hL.get (by simp)) 3 _ rfl
          obtain ⟨a0, a1, a2, a3⟩ := NoteN.cells (show (NoteN w3.heap.size a) _ from hL.get (by simp))
          have m0 := BoxN.cell (show (BoxN w5.heap.size 26 #[.string (bs K), .slice ma (k + 1) mc]) _ from hL.get (by simp)) 0 _ rfl
          have m1 := BoxN.cell (show (BoxN w5.heap.size 26 #[.string (bs K), .slice ma (k + 1) mc]) _ from hL.get (by simp)) 1 _ rfl
          obtain ⟨b0, b1, b2, b3⟩ := NoteN.cells (show (NoteN w4.heap.size b) _ from hL.get (by simp))
          have HL11 := Lib.hid hL
          clear hL
          have HWl2 := HWl
          have hxu : IntKind.i64.wrap ((k2 : Int) - (xn : Int)) = (k2 : Int) - (xn : Int) := IntWalk.i64_in _ (by omega)
          by_cases hau : a.unit = u
          rotate_left
          · have e1 : (a.unit == u) = false := beq_eq_false_iff_ne.2 hau
            have e2 : (a.unit != u) = true := by rw [bne, e1]; rfl
            have hk2x : k2 = xn := by have := HWl.out; rw [if_neg hau] at this; exact this
            have e3 : ((k2 : Int) != (xn : Int)) = false := by rw [hk2x]; simp
            have e4 : ((k2 : Int) - (xn : Int) != 1) = true := by rw [hk2x]; simp
            have E3 := Lib.hid e3
            have E4 := Lib.hid e4
            clear hau hk2x
            go_wp2_with fail
            clear p0 p1 p2 p3 q0 q1 q2 q3 a0 a1 a2 a3 m0 m1 b0 b1 b2 b3
            obtain ⟨K1, N1, c1, hA1⟩ : ∃ K' N' c', addN ⟨K, insN a l⟩ b = (⟨K', N'⟩, c') := ⟨(addN ⟨K, insN a l⟩ b).1.key, (addN ⟨K, insN a l⟩ b).1.notes, (addN ⟨K, insN a l⟩ b).2, rfl⟩
            obtain ⟨K2, N2, c2, hA2⟩ : ∃ K' N' c', addN ⟨K, l⟩ b = (⟨K', N'⟩, c') := ⟨(addN ⟨K, l⟩ b).1.key, (addN ⟨K, l⟩ b).1.notes, (addN ⟨K, l⟩ b).2, rfl⟩
            obtain ⟨K3, N3, c3, hA3⟩ : ∃ K' N' c', addN ⟨K2, N2⟩ a = (⟨K', N'⟩, c') := ⟨(addN ⟨K2, N2⟩ a).1.key, (addN ⟨K2, N2⟩ a).1.notes, (addN ⟨K2, N2⟩ a).2, rfl⟩
            have hN2 : N2.length ≤ 1000000 := by
              rcases addN_cases ⟨K, l⟩ b with h | h
              · rw [hA2] at h; have h' := congrArg (fun x => x.1.notes) h; simp only at h'; rw [h', insN_length, HRn.out]; omega
              · rw [hA2] at h; have h' := congrArg (fun x => x.1.notes) h; simp only at h'; rw [h']; exact Nat.zero_le _
            have HA1 := Lib.hid hA1; have HA2 := Lib.hid hA2; have HA3 := Lib.hid hA3; have HN2 := Lib.hid hN2
            clear hA1 hA2 hA3 hN2
            refine (vAdd_any K _ (insN a l) b _ (show (RowsN noteK (.slice ma (k + 1) mc) (insN a l)) _ from HL11.out.get (by simp)) (by rw [insN_length, HRn.out]; omega)).mono ?_
            rintro e w11 ⟨nv11, rfl, ho, hb⟩
            rw [HA1.out] at ho ⊢
            simp only at ho ⊢
            obtain ⟨oa, oc, hx, _, _⟩ := ho.shape
            subst hx
            generalize hon : N1.length = on at *
            have HOn := Lib.hid hon
            have hL := (((HL11.out.step hb).add (P := RowsN noteK (.slice oa on oc) N1) (keep_rows (ho.rows noteOk))).alloc (.cells #[.string (bs K1), .slice oa on oc] 26)).add (P := BoxN w11.heap.size 26 #[.string (bs K1), .slice oa on oc]) (keep_box (box_new w11 _ _))
            clear hb ho hon HL11
            have d0 := BoxN.cell (show (BoxN w2.heap.size 26 #[.string (bs K), .slice ra k rc]) _ from hL.get (by simp)) 0 _ rfl
            have d1 := BoxN.cell (show (BoxN w2.heap.size 26 #[.string (bs K), .slice ra k rc]) _ from hL.get (by simp)) 1 _ rfl
            obtain ⟨b0, b1, b2, b3⟩ := NoteN.cells (show (NoteN w4.heap.size b) _ from hL.get (by simp))
            have HL12 := Lib.hid hL; clear hL
            go_wp2_with fail
            clear d0 d1 b0 b1 b2 b3
            refine (vAdd_any K _ l b _ (show (RowsN noteK (.slice ra k rc) l) _ from HL12.out.get (by simp)) (by rw [HRn.out]; omega)).mono ?_
            rintro e w12 ⟨nv12, rfl, ho, hb⟩
            rw [HA2.out] at ho ⊢
            simp only at ho ⊢
            obtain ⟨ta, tc, hx, _, _⟩ := ho.shape
            subst hx
            generalize htn : N2.length = tn at *
            have HTn := Lib.hid htn
            have hL := HL12.out.step hb
            have hbT : Below w12.heap.size w12 (w12.alloc (.cells #[.string (bs K2), .slice ta tn tc] 26)) := (Below.refl _ _).alloc (Nat.le_refl _) _
            have HT2 : Hid (RowsAt noteK (w12.alloc (.cells #[.string (bs K2), .slice ta tn tc] 26)).heap.size (w12.alloc (.cells #[.string (bs K2), .slice ta tn tc] 26)) (.slice ta tn tc) N2) := (ho.rows noteOk).later hbT (Nat.le_refl _)
            have hbx : BoxN w12.heap.size 26 #[.string (bs K2), .slice ta tn tc] (w12.alloc (.cells #[.string (bs K2), .slice ta tn tc] 26)) := box_new w12 _ _
            have HBX := Lib.hid hbx; have HBT := Lib.hid hbT
            have t0 := BoxN.cell hbx 0 _ rfl
            have t1 := BoxN.cell hbx 1 _ rfl
            obtain ⟨a0, a1, a2, a3⟩ := NoteN.cells (show (NoteN w3.heap.size a) _ from (hL.alloc (.cells #[.string (bs K2), .slice ta tn tc] 26)).get (by simp))
            have HL13 := Lib.hid hL; clear hL hb ho htn HL12 hbT hbx
            go_wp2_with fail
            clear t0 t1 a0 a1 a2 a3
            refine (vAdd_any K2 _ N2 a _ HT2.out (by rw [HTn.out]; exact HN2.out)).mono ?_
            rintro e w13 ⟨nv13, rfl, ho, hb⟩
            rw [HA3.out] at ho ⊢
            simp only at ho ⊢
            obtain ⟨ua, uc, hx, _, _⟩ := ho.shape
            subst hx
            generalize hun : N3.length = un at *
            have HUn := Lib.hid hun
            have hbx : BoxN w12.heap.size 26 #[.string (bs K2), .slice ta tn tc] w13 := keep_box HBX.out w13 hb
            have hb3 := HBT.out.trans (hb.mono HBT.out.size)
            have hb5 := (hb3.setCell (p := ⟨w12.heap.size, 0, none⟩) (Nat.le_refl _) (.string (bs K3))).setCell (p := ⟨w12.heap.size, 1, none⟩) (Nat.le_refl _) (.slice ua un uc)
            have hL := HL13.out.step hb5
            have HBX5 : Hid (BoxN w12.heap.size 26 #[.string (bs K3), .slice ua un uc] ((w13.setCell ⟨w12.heap.size, 0, none⟩ (.string (bs K3))).setCell ⟨w12.heap.size, 1, none⟩ (.slice ua un uc))) := BoxN.set2 hbx _ _
            have HR5 : Hid (RowsAt noteK ((w13.setCell ⟨w12.heap.size, 0, none⟩ (.string (bs K3))).setCell ⟨w12.heap.size, 1, none⟩ (.slice ua un uc)).heap.size ((w13.setCell ⟨w12.heap.size, 0, none⟩ (.string (bs K3))).setCell ⟨w12.heap.size, 1, none⟩ (.slice ua un uc)) (.slice ua un uc) N3) := OwnK.rows noteOk ((ho.setBox hbx (by decide) 0 (.string (bs K3))).setBox (hbx.set 0 (.string (bs K3))) (by decide) 1 (.slice ua un uc))
            have z0 := BoxN.cell hbx 0 _ rfl
            have z1 := BoxN.cell hbx 1 _ rfl
            have zf := BoxN.frozen hbx
            have HBf := Lib.hid hL.below
            have HL15 := Lib.hid hL
            clear hL hb ho hun hbx hb3 hb5 HL13 HBX HBT HT2
            by_cases h1 : c1 = 0
            rotate_left
            · have e5 : (c1 != 0) = true := bne_iff_ne.2 h1
              clear h1
              go_wp2
              go_ret
              exact ⟨rfl, HBf.out⟩
            subst h1
            by_cases h2 : c2 = 0
            rotate_left
            · have e5 : (c2 != 0) = true := bne_iff_ne.2 h2
              clear h2
              go_wp2
              go_ret
              exact ⟨rfl, HBf.out⟩
            subst h2
            obtain ⟨r1, r2, r3, r4⟩ := adds_plain (K := K) (l := l) HDo.out HNn.out HNa.out (by rw [HRn.out]; omega) HA1.out HA2.out HA3.out
            replace r2 := r2.symm; replace r3 := r3.symm
            subst r1 r2 r3 r4
            have o0 := BoxN.cell (show (BoxN w11.heap.size 26 #[.string (bs K), .slice oa on oc]) _ from HL15.out.get (by simp)) 0 _ rfl
            have o1 := BoxN.cell (show (BoxN w11.heap.size 26 #[.string (bs K), .slice oa on oc]) _ from HL15.out.get (by simp)) 1 _ rfl
            have u0 := BoxN.cell HBX5.out 0 _ rfl
            have u1 := BoxN.cell HBX5.out 1 _ rfl
            have hss2 : ((bs K).toList == (bs K).toList) = true := by simp
            go_wp2_with fail
            clear o0 o1 u0 u1
            refine (sameNotes_any _ _ N1 N1 _ ((show (RowsN noteK (.slice oa on oc) N1) _ from HL15.out.get (by simp))) HR5.out).mono ?_
            rintro e w16 ⟨rfl, hb⟩
            rw [beq_self_eq_true]
            have HBz := Lib.hid (HL15.out.step hb).below
            clear hb HL15
            go_wp2
            go_ret
            exact ⟨rfl, HBz.out⟩
          · have e1 : (a.unit == u) = true := beq_iff_eq.2 hau
            have e2 : (a.unit != u) = false := by rw [bne, e1]; rfl
            have hk2x : k2 = xn + 1 := by have := HWl.out; rw [if_pos hau] at this; exact this
            have e4 : ((k2 : Int) - (xn : Int) != 1) = false := by rw [hk2x]; simp; omega
            have E4 := Lib.hid e4
            clear hau hk2x
            go_wp2_with fail
            clear p0 p1 p2 p3 q0 q1 q2 q3 a0 a1 a2 a3 m0 m1 b0 b1 b2 b3
            obtain ⟨K1, N1, c1, hA1⟩ : ∃ K' N' c', addN ⟨K, insN a l⟩ b = (⟨K', N'⟩, c') := ⟨(addN ⟨K, insN a l⟩ b).1.key, (addN ⟨K, insN a l⟩ b).1.notes, (addN ⟨K, insN a l⟩ b).2, rfl⟩
            obtain ⟨K2, N2, c2, hA2⟩ : ∃ K' N' c', addN ⟨K, l⟩ b = (⟨K', N'⟩, c') := ⟨(addN ⟨K, l⟩ b).1.key, (addN ⟨K, l⟩ b).1.notes, (addN ⟨K, l⟩ b).2, rfl⟩
            obtain ⟨K3, N3, c3, hA3⟩ : ∃ K' N' c', addN ⟨K2, N2⟩ a = (⟨K', N'⟩, c') := ⟨(addN ⟨K2, N2⟩ a).1.key, (addN ⟨K2, N2⟩ a).1.notes, (addN ⟨K2, N2⟩ a).2, rfl⟩
            have hN2 : N2.length ≤ 1000000 := by
              rcases addN_cases ⟨K, l⟩ b with h | h
              · rw [hA2] at h; have h' := congrArg (fun x => x.1.notes) h; simp only at h'; rw [h', insN_length, HRn.out]; omega
              · rw [hA2] at h; have h' := congrArg (fun x => x.1.notes) h; simp only at h'; rw [h']; exact Nat.zero_le _
            have HA1 := Lib.hid hA1; have HA2 := Lib.hid hA2; have HA3 := Lib.hid hA3; have HN2 := Lib.hid hN2
            clear hA1 hA2 hA3 hN2
            refine (vAdd_any K _ (insN a l) b _ (show (RowsN noteK (.slice ma (k + 1) mc) (insN a l)) _ from HL11.out.get (by simp)) (by rw [insN_length, HRn.out]; omega)).mono ?_
            rintro e w11 ⟨nv11, rfl, ho, hb⟩
            rw [HA1.out] at ho ⊢
            simp only at ho ⊢
            obtain ⟨oa, oc, hx, _, _⟩ := ho.shape
            subst hx
            generalize hon : N1.length = on at *
            have HOn := Lib.hid hon
            have hL := (((HL11.out.step hb).add (P := RowsN noteK (.slice oa on oc) N1) (keep_rows (ho.rows noteOk))).alloc (.cells #[.string (bs K1), .slice oa on oc] 26)).add (P := BoxN w11.heap.size 26 #[.string (bs K1), .slice oa on oc]) (keep_box (box_new w11 _ _))
            clear hb ho hon HL11
            have d0 := BoxN.cell (show (BoxN w2.heap.size 26 #[.string (bs K), .slice ra k rc]) _ from hL.get (by simp)) 0 _ rfl
            have d1 := BoxN.cell (show (BoxN w2.heap.size 26 #[.string (bs K), .slice ra k rc]) _ from hL.get (by simp)) 1 _ rfl
            obtain ⟨b0, b1, b2, b3⟩ := NoteN.cells (show (NoteN w4.heap.size b) _ from hL.get (by simp))
            have HL12 := Lib.hid hL; clear hL
            go_wp2_with fail
            clear d0 d1 b0 b1 b2 b3
            refine (vAdd_any K _ l b _ (show (RowsN noteK (.slice ra k rc) l) _ from HL12.out.get (by simp)) (by rw [HRn.out]; omega)).mono ?_
            rintro e w12 ⟨nv12, rfl, ho, hb⟩
            rw [HA2.out] at ho ⊢
            simp only at ho ⊢
            obtain ⟨ta, tc, hx, _, _⟩ := ho.shape
            subst hx
            generalize htn : N2.length = tn at *
            have HTn := Lib.hid htn
            have hL := HL12.out.step hb
            have hbT : Below w12.heap.size w12 (w12.alloc (.cells #[.string (bs K2), .slice ta tn tc] 26)) := (Below.refl _ _).alloc (Nat.le_refl _) _
            have HT2 : Hid (RowsAt noteK (w12.alloc (.cells #[.string (bs K2), .slice ta tn tc] 26)).heap.size (w12.alloc (.cells #[.string (bs K2), .slice ta tn tc] 26)) (.slice ta tn tc) N2) := (ho.rows noteOk).later hbT (Nat.le_refl _)
            have hbx : BoxN w12.heap.size 26 #[.string (bs K2), .slice ta tn tc] (w12.alloc (.cells #[.string (bs K2), .slice ta tn tc] 26)) := box_new w12 _ _
            have HBX := Lib.hid hbx; have HBT := Lib.hid hbT
            have t0 := BoxN.cell hbx 0 _ rfl
            have t1 := BoxN.cell hbx 1 _ rfl
            obtain ⟨a0, a1, a2, a3⟩ := NoteN.cells (show (NoteN w3.heap.size a) _ from (hL.alloc (.cells #[.string (bs K2), .slice ta tn tc] 26)).get (by simp))
            have HL13 := Lib.hid hL; clear hL hb ho htn HL12 hbT hbx
            go_wp2_with fail
            clear t0 t1 a0 a1 a2 a3
            refine (vAdd_any K2 _ N2 a _ HT2.out (by rw [HTn.out]; exact HN2.out)).mono ?_
            rintro e w13 ⟨nv13, rfl, ho, hb⟩
            rw [HA3.out] at ho ⊢
            simp only at ho ⊢
            obtain ⟨ua, uc, hx, _, _⟩ := ho.shape
            subst hx
            generalize hun : N3.length = un at *
            have HUn := Lib.hid hun
            have hbx : BoxN w12.heap.size 26 #[.string (bs K2), .slice ta tn tc] w13 := keep_box HBX.out w13 hb
            have hb3 := HBT.out.trans (hb.mono HBT.out.size)
            have hb5 := (hb3.setCell (p := ⟨w12.heap.size, 0, none⟩) (Nat.le_refl _) (.string (bs K3))).setCell (p := ⟨w12.heap.size, 1, none⟩) (Nat.le_refl _) (.slice ua un uc)
            have hL := HL13.out.step hb5
            have HBX5 : Hid (BoxN w12.heap.size 26 #[.string (bs K3), .slice ua un uc] ((w13.setCell ⟨w12.heap.size, 0, none⟩ (.string (bs K3))).setCell ⟨w12.heap.size, 1, none⟩ (.slice ua un uc))) := BoxN.set2 hbx _ _
            have HR5 : Hid (RowsAt noteK ((w13.setCell ⟨w12.heap.size, 0, none⟩ (.string (bs K3))).setCell ⟨w12.heap.size, 1, none⟩ (.slice ua un uc)).heap.size ((w13.setCell ⟨w12.heap.size, 0, none⟩ (.string (bs K3))).setCell ⟨w12.heap.size, 1, none⟩ (.slice ua un uc)) (.slice ua un uc) N3) := OwnK.rows noteOk ((ho.setBox hbx (by decide) 0 (.string (bs K3))).setBox (hbx.set 0 (.string (bs K3))) (by decide) 1 (.slice ua un uc))
            have z0 := BoxN.cell hbx 0 _ rfl
            have z1 := BoxN.cell hbx 1 _ rfl
            have zf := BoxN.frozen hbx
            have HBf := Lib.hid hL.below
            have HL15 := Lib.hid hL
            clear hL hb ho hun hbx hb3 hb5 HL13 HBX HBT HT2
            by_cases h1 : c1 = 0
            rotate_left
            · have e5 : (c1 != 0) = true := bne_iff_ne.2 h1
              clear h1
              go_wp2
              go_ret
              exact ⟨rfl, HBf.out⟩
            subst h1
            by_cases h2 : c2 = 0
            rotate_left
            · have e5 : (c2 != 0) = true := bne_iff_ne.2 h2
              clear h2
              go_wp2
              go_ret
              exact ⟨rfl, HBf.out⟩
            subst h2
            obtain ⟨r1, r2, r3, r4⟩ := adds_plain (K := K) (l := l) HDo.out HNn.out HNa.out (by rw [HRn.out]; omega) HA1.out HA2.out HA3.out
            replace r2 := r2.symm; replace r3 := r3.symm
            subst r1 r2 r3 r4
            have o0 := BoxN.cell (show (BoxN w11.heap.size 26 #[.string (bs K), .slice oa on oc]) _ from HL15.out.get (by simp)) 0 _ rfl
            have o1 := BoxN.cell (show (BoxN w11.heap.size 26 #[.string (bs K), .slice oa on oc]) _ from HL15.out.get (by simp)) 1 _ rfl
            have u0 := BoxN.cell HBX5.out 0 _ rfl
            have u1 := BoxN.cell HBX5.out 1 _ rfl
            have hss2 : ((bs K).toList == (bs K).toList) = true := by simp
            go_wp2_with fail
            clear o0 o1 u0 u1
            refine (sameNotes_any _ _ N1 N1 _ ((show (RowsN noteK (.slice oa on oc) N1) _ from HL15.out.get (by simp))) HR5.out).mono ?_
            rintro e w16 ⟨rfl, hb⟩
            rw [beq_self_eq_true]
            have HBz := Lib.hid (HL15.out.step hb).below
            clear hb HL15
            go_wp2
            go_ret
            exact ⟨rfl, HBz.out⟩
end Go.Proofs.YteicimmdcdjagaaGreatDoor
