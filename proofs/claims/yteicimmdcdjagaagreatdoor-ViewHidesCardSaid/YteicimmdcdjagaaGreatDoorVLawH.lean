import Derived.Test.YteicimmdcdjagaaGreatDoorMVRef
import Derived.Test.YteicimmdcdjagaaGreatDoorVLawQ
import Derived.Test.YteicimmdcdjagaaGreatDoorMDigR
set_option linter.unusedVariables false
set_option linter.unusedSimpArgs false

/- ViewHides. -/
set_option linter.unusedVariables false
set_option linter.unusedSimpArgs false
namespace Go.Proofs.YteicimmdcdjagaaGreatDoor
open Go.RowKit Go.Shelf

/-- The dossier that is being made, and its notes. -/
def HidR (V : World) (G : Nat) (K : List UInt8) (T : List VNote) (nv : Value) (W : World) : Prop := DosN G K nv W ∧ OwnK noteK (G + 1) W nv T ∧ Below V.heap.size V W
set_option maxRecDepth 100000 in
set_option maxHeartbeats 16000000 in
theorem lawH (z : Int) (xv yv : Value) (N M : Nat) (f g : Nat → Nat → Int) (id : Int) (w : World) (hz : -9223372036854775808 ≤ z ∧ z ≤ 9223372036854775807) (hid : -9223372036854775808 ≤ id ∧ id ≤ 9223372036854775807)
    (hX : FourAt w.heap.size w xv N f) (hY : FourAt w.heap.size w yv M g) (hT : Rounds w) :
    Calls Tryz.prog 6 #[.int .i64 z, xv, yv, .int .i64 id] w fun e w' => e = .returned (.bool true) ∧ Below w.heap.size w w' := by
  have HL0 := Lib.hid (LiveP.start hT)
  have HX := Lib.hid hX
  have HY := Lib.hid hY
  have HZ := Lib.hid hz
  have HU := Lib.hid (fun W => unit_any id W hid.1 hid.2)
  have hub := unitZ_bd id
  obtain ⟨u, hu⟩ := Int.eq_ofNat_of_zero_le hub.1
  have hu9 : u < 100 := by omega
  rw [hu] at HU
  obtain ⟨K, hK⟩ : ∃ K, K = keyB z := ⟨_, rfl⟩
  have HKe := Lib.hid hK
  have hkl : K.length = 32 := by rw [hK]; exact keyB_length _
  have HKl := Lib.hid hkl
  have HdA := Lib.hid (made_dos z N f)
  have HdB := Lib.hid (made_dos z M g)
  have HlA := Lib.hid (madeD_ok (keyB_length z) N f).2.2.1
  have HlB := Lib.hid (madeD_ok (keyB_length z) M g).2.2.1
  rw [← hK] at HdA HdB HlA HlB
  have HMa := Lib.hid (fun W h => made_any z xv N f W hz h)
  have HMb := Lib.hid (fun W h => made_any z yv M g W hz h)
  rw [← hK] at HMa HMb
  generalize (madeD K N f).notes = l at *
  generalize (madeD K M g).notes = m at *
  clear hz hid hX hY hT hub hu hK hkl HKe HZ
  go_enter Tryz.func6, Tryz.ntmps6
  go_wp2_with fail
  refine (vsane_any _ HL0.out.rounds).mono ?_
  rintro e w1 ⟨rfl, hb⟩
  have HL1 := Lib.hid (HL0.out.step hb)
  clear hb HL0
  go_wp2_with fail
  refine (HMa.out _ (HX.out.later HL1.out.below)).mono ?_
  rintro e w2 ⟨nv, rfl, ho, hb⟩
  obtain ⟨ra, rc, hnv, hrc1, hrc2⟩ := ho.shape
  subst hnv
  generalize hrn : l.length = rn at *
  have HRn := Lib.hid hrn
  have rn12 : rn ≤ 12 := HlA.out
  have hL := (((HL1.out.step hb).add (P := RowsN noteK (.slice ra rn rc) l) (keep_rows (ho.rows noteOk))).alloc (.cells #[.string (bs K), .slice ra rn rc] 26)).add (P := BoxN w2.heap.size 26 #[.string (bs K), .slice ra rn rc]) (keep_box (box_new w2 _ _))
  have HL2 := Lib.hid hL
  clear hL hrn hb ho hrc1 HL1 HMa HX
  go_wp2_with fail
  refine (HMb.out _ (HY.out.later HL2.out.below)).mono ?_
  rintro e w3 ⟨nv, rfl, ho, hb⟩
  obtain ⟨sa, sc, hnv, hrc1, hrc2⟩ := ho.shape
  subst hnv
  generalize hrn : m.length = sn at *
  have HSn := Lib.hid hrn
  have sn12 : sn ≤ 12 := HlB.out
  have hL := (((HL2.out.step hb).add (P := RowsN noteK (.slice sa sn sc) m) (keep_rows (ho.rows noteOk))).alloc (.cells #[.string (bs K), .slice sa sn sc] 26)).add (P := BoxN w3.heap.size 26 #[.string (bs K), .slice sa sn sc]) (keep_box (box_new w3 _ _))
  have HL3 := Lib.hid hL
  clear hL hrn hb ho hrc1 HL2 HMb HY
  go_wp2_with fail
  refine (HU.out _).mono ?_
  rintro e V ⟨rfl, hb⟩
  have HL4 := Lib.hid (HL3.out.step hb)
  clear hb HL3 HU
  obtain ⟨G, hG⟩ : ∃ G, G = V.heap.size := ⟨_, rfl⟩
  have HM0 : Hid (HidR V G K [] (.slice none 0 0) (V.alloc (.cells #[.string (bs K), .slice none 0 0] 26))) := ⟨by show BoxN _ _ _ _; rw [hG]; exact box_new V _ _, OwnK.nil _ _, (Below.refl _ _).alloc (Nat.le_refl _) _⟩
  have d0 := BoxN.cell (show (BoxN w2.heap.size 26 #[.string (bs K), .slice ra rn rc]) _ from HL4.out.get (by simp)) 0 _ rfl
  have HG := Lib.hid hG
  go_wp2
  rw [← hG]
  generalize (V.alloc (.cells #[.string (bs K), .slice none 0 0] 26)) = V1 at *
  clear hG d0
  go_loopw [14] (fun i wr => ∃ (k : Nat) (T : List VNote) (ta : Option Addr) (tn tc : Nat), k ≤ rn ∧ i = .int .i64 k ∧ Hid (Hid1 K l u k T) ∧ Hid (HidR V G K T (.slice ta tn tc) wr)) (fun i _ => rn - (intOf i).toNat)
  case atStart => exact ⟨0, [], _, _, _, Nat.zero_le _, rfl, hid1_0 HKl.out l u, HM0⟩
  case round =>
    obtain ⟨k, T, ta, tn, tc, hk, rfl, HP, HR⟩ := hrel
    have hL := HL4.out.step HR.out.2.2
    have b1 := BoxN.cell (show (BoxN w2.heap.size 26 #[.string (bs K), .slice ra rn rc]) _ from hL.get (by simp)) 1 _ rfl
    by_cases h1 : k < rn
    · have ji : (k : Int) < (rn : Int) := by omega
      have j0 : 0 ≤ (k : Int) := by omega
      obtain ⟨y, hy⟩ : ∃ y, y = l.getD k default := ⟨_, rfl⟩
      have hget : l[k]? = some y := by rw [hy, List.getD_eq_getElem?_getD, List.getElem?_eq_getElem (by rw [HRn.out]; exact h1)]; rfl
      clear hy
      obtain ⟨gb, off, hae, hgb, hat⟩ := notes_at (show (RowsN noteK (.slice ra rn rc) l) _ from hL.get (by simp)) k y hget
      subst hae
      obtain ⟨x0, x1, x2, x3⟩ := hat
      have wk : IntKind.i64.wrap ((k : Int) + 1) = (k : Int) + 1 := IntWalk.i64_in _ (by omega)
      by_cases hyu : y.unit = (u : Int)
      · have e1 : (y.unit == (u : Int)) = true := beq_iff_eq.2 hyu
        have e2 : (y.unit != (u : Int)) = false := by rw [bne, e1]; rfl
        obtain ⟨hadd, hp1⟩ := hid1_add HdA.out (by rw [HRn.out]; exact rn12) HP.out hget hyu
        have HAdd := Lib.hid hadd
        have HP1 : Hid (Hid1 K l u (k + 1) (insN y T)) := hp1
        have HDr : Hid (DosN G K (.slice ta tn tc) wr) := HR.out.1
        have HO : Hid (OwnK noteK (G + 1) wr (.slice ta tn tc) T) := HR.out.2.1
        have HBr : Hid (Below V.heap.size V wr) := HR.out.2.2
        have HTl : Hid (T.length ≤ 1000000) := by have := HP.out.2.1; show _ ≤ _; omega
        have HQ : Hid (∀ W, wr.grownBy W none → W.cell? ⟨G, 0, none⟩ = some (.string (bs K)) ∧ W.cell? ⟨G, 1, none⟩ = some (.slice ta tn tc) ∧ W.cell? ⟨w2.heap.size, 0, none⟩ = some (.string (bs K)) ∧ W.cell? ⟨w2.heap.size, 1, none⟩ = some (.slice (some ⟨gb, off, none⟩) rn rc) ∧ W.cell? ⟨gb, off + k * 4, none⟩ = some (.int .i64 y.unit) ∧ W.cell? ⟨gb, off + k * 4 + 1, none⟩ = some (.int .i64 y.day) ∧ W.cell? ⟨gb, off + k * 4 + 2, none⟩ = some (.int .i64 y.kind) ∧ W.cell? ⟨gb, off + k * 4 + 3, none⟩ = some (.string (bs y.text))) := fun W hW => by
          have hd := BoxN.grown HDr.out hW (by simp)
          have h2 := hL.step (grown_below hW)
          exact ⟨DosN.c0 hd, DosN.c1 hd, BoxN.cell (show (BoxN w2.heap.size 26 #[.string (bs K), .slice (some ⟨gb, off, none⟩) rn rc]) _ from h2.get (by simp)) 0 _ rfl, BoxN.cell (show (BoxN w2.heap.size 26 #[.string (bs K), .slice (some ⟨gb, off, none⟩) rn rc]) _ from h2.get (by simp)) 1 _ rfl, hW.cell x0 (by simp), hW.cell x1 (by simp), hW.cell x2 (by simp), hW.cell x3 (by simp)⟩
        clear hadd hp1 hget hgb hL x1 x2 x3 hyu HP HR
        go_wp2
        clear b1 x0
        refine wp_region_calm_late 11 9 ⟨[6, 10], fun q v W => if q = 6 then ∃ nv', v = .tuple #[dosV K nv', .int .i64 0] ∧ OwnK noteK wr.heap.size W nv' (insN y T) else ∃ b, v = .pointer (some ⟨b, 0, none⟩) ∧ wr.heap.size ≤ b ∧ BoxN b 26 #[.string (⟨#[]⟩ : ByteArray), .slice none 0 0] W, fun _ => [], 99, none, 11⟩ (by kernel_rfl) (by kernel_rfl) (by kernel_rfl) (by kernel_rfl) (fun g h => by cases h) (fun q hq v W W' c h hg hc => ?_) ?_
        · cases c with
          | some g => obtain ⟨_, _, i, j, u, hd, _⟩ := hc g rfl; simp at hd
          | none =>
            by_cases h6 : q = 6
            · simp only [h6, if_true] at h ⊢
              obtain ⟨nv', h1, h2⟩ := h
              exact ⟨nv', h1, h2.kept hg (fun g h => by cases h)⟩
            · simp only [h6, if_false] at h ⊢
              obtain ⟨b, h1, h2, h3⟩ := h
              exact ⟨b, h1, h2, BoxN.grown h3 hg (by simp)⟩
        iterate 6 (refine calm_quiet (v := ?_) (by rfl) (by rfl) (fun W hW hD => ?_) ?_; rotate_left; (· (obtain ⟨z0, z1, y0, y1, c0, c1, c2, c3⟩ := HQ.out W hW; clear hD hW; go_simp; try with_reducible rfl)); simp only [Act.put, List.setIfInBounds_toArray, List.set_cons_zero, List.set_cons_succ, Nat.reduceAdd, Nat.zero_add])
        refine calm_makes (by rfl) (by rfl) (fun W hW hD Kc hK => ?_) (fun v65 => ?_)
        · have hz := hW.size
          refine wp_of_call (f := 25) (args := #[dosV K (.slice ta tn tc), noteV y]) ?_ ((vAdd_any K (.slice ta tn tc) T y W ((OwnK.kept HO.out hW (fun g h => by cases h)).rows noteOk) HTl.out).mono ?_)
          · clear hD hW hK
            go_simp
          · rintro e w5 ⟨nv', rfl, ho, hb5⟩
            rw [HAdd.out] at ho ⊢
            simp only at ho ⊢
            obtain ⟨xa, xc, rfl, _, _⟩ := ho.shape
            exact ⟨_, rfl, hK _ _ (made_plain ⟨_, rfl, ho.mono hz⟩ hb5 rfl)⟩
        simp only [Act.put, List.setIfInBounds_toArray, List.set_cons_zero, List.set_cons_succ, Nat.reduceAdd, Nat.zero_add]
        iterate 1 (refine calm_quiet (v := ?_) (by rfl) (by rfl) (fun W hW hD => ?_) ?_; rotate_left; (· (clear hD hW; go_simp; try with_reducible rfl)); simp only [Act.put, List.setIfInBounds_toArray, List.set_cons_zero, List.set_cons_succ, Nat.reduceAdd, Nat.zero_add])
        refine calm_quiet (v := vtupAt v65 0) (by rfl) (by rfl) (fun W hW hD => ?_) ?_
        · obtain ⟨nv', rfl, _⟩ : ∃ nv', v65 = .tuple #[dosV K nv', .int .i64 0] ∧ OwnK noteK wr.heap.size W nv' (insN y T) := hD [7] 6 (by kernel_rfl) (by kernel_rfl) (by kernel_rfl)
          clear hD hW
          go_simp
          try rfl
        simp only [Act.put, List.setIfInBounds_toArray, List.set_cons_zero, List.set_cons_succ, Nat.reduceAdd, Nat.zero_add]
        refine calm_quiet (v := vtupAt v65 1) (by rfl) (by rfl) (fun W hW hD => ?_) ?_
        · obtain ⟨nv', rfl, _⟩ : ∃ nv', v65 = .tuple #[dosV K nv', .int .i64 0] ∧ OwnK noteK wr.heap.size W nv' (insN y T) := hD [7] 6 (by kernel_rfl) (by kernel_rfl) (by kernel_rfl)
          clear hD hW
          go_simp
          try rfl
        simp only [Act.put, List.setIfInBounds_toArray, List.set_cons_zero, List.set_cons_succ, Nat.reduceAdd, Nat.zero_add]
        refine calm_makes (by rfl) (by rfl) (fun W hW hD Kc hK => ?_) (fun v15 => ?_)
        · have hz := hW.size
          refine wp_of_run (v := .pointer (some ⟨W.heap.size, 0, none⟩)) (w' := W.alloc (.cells #[.string (⟨#[]⟩ : ByteArray), .slice none 0 0] 26)) ?_ (hK _ _ (made_plain ⟨_, rfl, hz, box_new W _ _⟩ ((Below.refl _ _).alloc (Nat.le_refl _) _) rfl))
          clear hD hW hK
          go_simp
        simp only [Act.put, List.setIfInBounds_toArray, List.set_cons_zero, List.set_cons_succ, Nat.reduceAdd, Nat.zero_add]
        refine calm_tail (by rfl) fun W hW hF => ?_
        obtain ⟨nv', rfl, hown⟩ : ∃ nv', v65 = .tuple #[dosV K nv', .int .i64 0] ∧ OwnK noteK wr.heap.size W nv' (insN y T) := hF 6 (by kernel_rfl) (by kernel_rfl)
        obtain ⟨b, rfl, hbB, hbx⟩ : ∃ b, v15 = .pointer (some ⟨b, 0, none⟩) ∧ wr.heap.size ≤ b ∧ BoxN b 26 #[.string (⟨#[]⟩ : ByteArray), .slice none 0 0] W := hF 10 (by kernel_rfl) (by kernel_rfl)
        obtain ⟨xa, xc, hx, _, _⟩ := hown.shape
        subst hx
        generalize hxn : (insN y T).length = xn at *
        clear hxn
        rw [show vtupAt (.tuple #[dosV K (.slice xa xn xc), .int .i64 0]) 0 = dosV K (.slice xa xn xc) from rfl, show vtupAt (.tuple #[dosV K (.slice xa xn xc), .int .i64 0]) 1 = .int .i64 0 from rfl]
        have z0 := BoxN.cell hbx 0 _ rfl
        have z1 := BoxN.cell hbx 1 _ rfl
        have zf := BoxN.frozen hbx
        have hgd := BoxN.grown HDr.out hW (by simp)
        have hbw := HBr.out.trans ((grown_below hW).mono HBr.out.size)
        have hGlt := HDr.out.lt
        have hWz := hW.size
        have hVG : V.heap.size ≤ G := Nat.le_of_eq HG.out.symm
        have HWs : Hid (BoxN b 26 #[.string (bs K), .slice xa xn xc] ((W.setCell ⟨b, 0, none⟩ (.string (bs K))).setCell ⟨b, 1, none⟩ (.slice xa xn xc)) ∧ OwnK noteK (G + 1) ((W.setCell ⟨b, 0, none⟩ (.string (bs K))).setCell ⟨b, 1, none⟩ (.slice xa xn xc)) (.slice xa xn xc) (insN y T) ∧ DosN G K (.slice ta tn tc) ((W.setCell ⟨b, 0, none⟩ (.string (bs K))).setCell ⟨b, 1, none⟩ (.slice xa xn xc)) ∧ Below V.heap.size V ((W.setCell ⟨b, 0, none⟩ (.string (bs K))).setCell ⟨b, 1, none⟩ (.slice xa xn xc))) :=
          ⟨BoxN.set2 hbx _ _, ((hown.setBox hbx (by decide) 0 _).setBox (hbx.set 0 _) (by decide) 1 _).mono (by omega), BoxN.other (BoxN.other hgd (by omega)) (by omega), (hbw.setCell (p := ⟨b, 0, none⟩) (by show _ ≤ b; omega) _).setCell (p := ⟨b, 1, none⟩) (by show _ ≤ b; omega) _⟩
        have hbG : b ≠ G := by omega
        clear hF hW hbx hgd hbw hown HQ HO HDr HBr
        go_wp2
        refine NoPanic.normal ?_
        clear z0 z1 zf
        generalize ((W.setCell ⟨b, 0, none⟩ (.string (bs K))).setCell ⟨b, 1, none⟩ (.slice xa xn xc)) = W9 at *
        obtain ⟨hx0, hx1, hx3, hx5⟩ := HWs.out
        have b0 := BoxN.cell hx0 0 _ rfl
        have b1 := BoxN.cell hx0 1 _ rfl
        have g0 := BoxN.cell hx3 0 _ rfl
        have g1 := BoxN.cell hx3 1 _ rfl
        have gf := BoxN.frozen hx3
        have HF9 : Hid (HidR V G K (insN y T) (.slice xa xn xc) ((W9.setCell ⟨G, 0, none⟩ (.string (bs K))).setCell ⟨G, 1, none⟩ (.slice xa xn xc))) := 
          ⟨BoxN.set2 hx3 _ _, (hx1.setOther (by omega) 0 _).setOther (by omega) 1 _, (hx5.setCell (p := ⟨G, 0, none⟩) (by show _ ≤ G; omega) _).setCell (p := ⟨G, 1, none⟩) (by show _ ≤ G; omega) _⟩
        clear hx0 hx1 hx3 hx5 HWs HAdd
        go_wp2
        go_roundw
        case rel => exact ⟨k + 1, _, _, _, _, by omega, by go_num, HP1, HF9⟩
        case measure => simp [intOf]; omega
      · have e1 : (y.unit == (u : Int)) = false := beq_eq_false_iff_ne.2 hyu
        have e2 : (y.unit != (u : Int)) = true := by rw [bne, e1]; rfl
        have HP1 : Hid (Hid1 K l u (k + 1) T) := hid1_skip HP.out hget hyu
        clear hget hgb hL x1 x2 x3 hyu HP
        go_wp2
        go_roundw
        case rel => exact ⟨k + 1, _, _, _, _, by omega, by go_num, HP1, HR⟩
        case measure => simp [intOf]; omega
    obtain rfl : rn = k := by omega
    have ji : ¬ ((rn : Int) < (rn : Int)) := by omega
    have HP2 : Hid (Hid2 K l m u 0 T) := hid2_0 m (by rw [HRn.out]; exact rn12) (by rw [HRn.out]; exact HP.out)
    clear HM0 hL HP h1 hk
    go_wp2
    clear b1 ji
    have HR1 := HR
    clear HR
    go_loopw [17] (fun i wr => ∃ (k : Nat) (T : List VNote) (ta : Option Addr) (tn tc : Nat), k ≤ sn ∧ i = .int .i64 k ∧ Hid (Hid2 K l m u k T) ∧ Hid (HidR V G K T (.slice ta tn tc) wr)) (fun i _ => sn - (intOf i).toNat)
    case atStart => exact ⟨0, T, ta, tn, tc, Nat.zero_le _, rfl, HP2, HR1⟩
    case round =>
      obtain ⟨k, T, ta, tn, tc, hk, rfl, HP, HR⟩ := hrel
      have hL := HL4.out.step HR.out.2.2
      have b1 := BoxN.cell (show (BoxN w3.heap.size 26 #[.string (bs K), .slice sa sn sc]) _ from hL.get (by simp)) 1 _ rfl
      by_cases h1 : k < sn
      · have ji : (k : Int) < (sn : Int) := by omega
        have j0 : 0 ≤ (k : Int) := by omega
        obtain ⟨y, hy⟩ : ∃ y, y = m.getD k default := ⟨_, rfl⟩
        have hget : m[k]? = some y := by rw [hy, List.getD_eq_getElem?_getD, List.getElem?_eq_getElem (by rw [HSn.out]; exact h1)]; rfl
        clear hy
        obtain ⟨gb, off, hae, hgb, hat⟩ := notes_at (show (RowsN noteK (.slice sa sn sc) m) _ from hL.get (by simp)) k y hget
        subst hae
        obtain ⟨x0, x1, x2, x3⟩ := hat
        have wk : IntKind.i64.wrap ((k : Int) + 1) = (k : Int) + 1 := IntWalk.i64_in _ (by omega)
        by_cases hyu : y.unit = (u : Int)
        · have e1 : (y.unit == (u : Int)) = true := beq_iff_eq.2 hyu
          have e2 : (y.unit != (u : Int)) = false := by rw [bne, e1]; rfl
          have HP1 : Hid (Hid2 K l m u (k + 1) T) := hid2_skip HP.out hget hyu
          clear hget hgb hL x1 x2 x3 hyu HP
          go_wp2
          go_roundw
          case rel => exact ⟨k + 1, _, _, _, _, by omega, by go_num, HP1, HR⟩
          case measure => simp [intOf]; omega
        · have e1 : (y.unit == (u : Int)) = false := beq_eq_false_iff_ne.2 hyu
          have e2 : (y.unit != (u : Int)) = true := by rw [bne, e1]; rfl
          obtain ⟨hadd, hp1⟩ := hid2_add HdB.out (by rw [HSn.out]; exact sn12) HP.out hget hyu
          have HAdd := Lib.hid hadd
          have HP1 : Hid (Hid2 K l m u (k + 1) (insN y T)) := hp1
          have HDr : Hid (DosN G K (.slice ta tn tc) wr) := HR.out.1
          have HO : Hid (OwnK noteK (G + 1) wr (.slice ta tn tc) T) := HR.out.2.1
          have HBr : Hid (Below V.heap.size V wr) := HR.out.2.2
          have HTl : Hid (T.length ≤ 1000000) := by have := HP.out.2.1; show _ ≤ _; omega
          have HQ : Hid (∀ W, wr.grownBy W none → W.cell? ⟨G, 0, none⟩ = some (.string (bs K)) ∧ W.cell? ⟨G, 1, none⟩ = some (.slice ta tn tc) ∧ W.cell? ⟨w3.heap.size, 0, none⟩ = some (.string (bs K)) ∧ W.cell? ⟨w3.heap.size, 1, none⟩ = some (.slice (some ⟨gb, off, none⟩) sn sc) ∧ W.cell? ⟨gb, off + k * 4, none⟩ = some (.int .i64 y.unit) ∧ W.cell? ⟨gb, off + k * 4 + 1, none⟩ = some (.int .i64 y.day) ∧ W.cell? ⟨gb, off + k * 4 + 2, none⟩ = some (.int .i64 y.kind) ∧ W.cell? ⟨gb, off + k * 4 + 3, none⟩ = some (.string (bs y.text))) := fun W hW => by
            have hd := BoxN.grown HDr.out hW (by simp)
            have h2 := hL.step (grown_below hW)
            exact ⟨DosN.c0 hd, DosN.c1 hd, BoxN.cell (show (BoxN w3.heap.size 26 #[.string (bs K), .slice (some ⟨gb, off, none⟩) sn sc]) _ from h2.get (by simp)) 0 _ rfl, BoxN.cell (show (BoxN w3.heap.size 26 #[.string (bs K), .slice (some ⟨gb, off, none⟩) sn sc]) _ from h2.get (by simp)) 1 _ rfl, hW.cell x0 (by simp), hW.cell x1 (by simp), hW.cell x2 (by simp), hW.cell x3 (by simp)⟩
          clear hadd hp1 hget hgb hL x1 x2 x3 hyu HP HR
          go_wp2
          clear b1 x0
          refine wp_region_calm_late 11 9 ⟨[6, 10], fun q v W => if q = 6 then ∃ nv', v = .tuple #[dosV K nv', .int .i64 0] ∧ OwnK noteK wr.heap.size W nv' (insN y T) else ∃ b, v = .pointer (some ⟨b, 0, none⟩) ∧ wr.heap.size ≤ b ∧ BoxN b 26 #[.string (⟨#[]⟩ : ByteArray), .slice none 0 0] W, fun _ => [], 99, none, 11⟩ (by kernel_rfl) (by kernel_rfl) (by kernel_rfl) (by kernel_rfl) (fun g h => by cases h) (fun q hq v W W' c h hg hc => ?_) ?_
          · cases c with
            | some g => obtain ⟨_, _, i, j, u, hd, _⟩ := hc g rfl; simp at hd
            | none =>
              by_cases h6 : q = 6
              · simp only [h6, if_true] at h ⊢
                obtain ⟨nv', h1, h2⟩ := h
                exact ⟨nv', h1, h2.kept hg (fun g h => by cases h)⟩
              · simp only [h6, if_false] at h ⊢
                obtain ⟨b, h1, h2, h3⟩ := h
                exact ⟨b, h1, h2, BoxN.grown h3 hg (by simp)⟩
          iterate 6 (refine calm_quiet (v := ?_) (by rfl) (by rfl) (fun W hW hD => ?_) ?_; rotate_left; (· (obtain ⟨z0, z1, y0, y1, c0, c1, c2, c3⟩ := HQ.out W hW; clear hD hW; go_simp; try with_reducible rfl)); simp only [Act.put, List.setIfInBounds_toArray, List.set_cons_zero, List.set_cons_succ, Nat.reduceAdd, Nat.zero_add])
          refine calm_makes (by rfl) (by rfl) (fun W hW hD Kc hK => ?_) (fun v65 => ?_)
          · have hz := hW.size
            refine wp_of_call (f := 25) (args := #[dosV K (.slice ta tn tc), noteV y]) ?_ ((vAdd_any K (.slice ta tn tc) T y W ((OwnK.kept HO.out hW (fun g h => by cases h)).rows noteOk) HTl.out).mono ?_)
            · clear hD hW hK
              go_simp
            · rintro e w5 ⟨nv', rfl, ho, hb5⟩
              rw [HAdd.out] at ho ⊢
              simp only at ho ⊢
              obtain ⟨xa, xc, rfl, _, _⟩ := ho.shape
              exact ⟨_, rfl, hK _ _ (made_plain ⟨_, rfl, ho.mono hz⟩ hb5 rfl)⟩
          simp only [Act.put, List.setIfInBounds_toArray, List.set_cons_zero, List.set_cons_succ, Nat.reduceAdd, Nat.zero_add]
          iterate 1 (refine calm_quiet (v := ?_) (by rfl) (by rfl) (fun W hW hD => ?_) ?_; rotate_left; (· (clear hD hW; go_simp; try with_reducible rfl)); simp only [Act.put, List.setIfInBounds_toArray, List.set_cons_zero, List.set_cons_succ, Nat.reduceAdd, Nat.zero_add])
          refine calm_quiet (v := vtupAt v65 0) (by rfl) (by rfl) (fun W hW hD => ?_) ?_
          · obtain ⟨nv', rfl, _⟩ : ∃ nv', v65 = .tuple #[dosV K nv', .int .i64 0] ∧ OwnK noteK wr.heap.size W nv' (insN y T) := hD [7] 6 (by kernel_rfl) (by kernel_rfl) (by kernel_rfl)
            clear hD hW
            go_simp
            try rfl
          simp only [Act.put, List.setIfInBounds_toArray, List.set_cons_zero, List.set_cons_succ, Nat.reduceAdd, Nat.zero_add]
          refine calm_quiet (v := vtupAt v65 1) (by rfl) (by rfl) (fun W hW hD => ?_) ?_
          · obtain ⟨nv', rfl, _⟩ : ∃ nv', v65 = .tuple #[dosV K nv', .int .i64 0] ∧ OwnK noteK wr.heap.size W nv' (insN y T) := hD [7] 6 (by kernel_rfl) (by kernel_rfl) (by kernel_rfl)
            clear hD hW
            go_simp
            try rfl
          simp only [Act.put, List.setIfInBounds_toArray, List.set_cons_zero, List.set_cons_succ, Nat.reduceAdd, Nat.zero_add]
          refine calm_makes (by rfl) (by rfl) (fun W hW hD Kc hK => ?_) (fun v15 => ?_)
          · have hz := hW.size
            refine wp_of_run (v := .pointer (some ⟨W.heap.size, 0, none⟩)) (w' := W.alloc (.cells #[.string (⟨#[]⟩ : ByteArray), .slice none 0 0] 26)) ?_ (hK _ _ (made_plain ⟨_, rfl, hz, box_new W _ _⟩ ((Below.refl _ _).alloc (Nat.le_refl _) _) rfl))
            clear hD hW hK
            go_simp
          simp only [Act.put, List.setIfInBounds_toArray, List.set_cons_zero, List.set_cons_succ, Nat.reduceAdd, Nat.zero_add]
          refine calm_tail (by rfl) fun W hW hF => ?_
          obtain ⟨nv', rfl, hown⟩ : ∃ nv', v65 = .tuple #[dosV K nv', .int .i64 0] ∧ OwnK noteK wr.heap.size W nv' (insN y T) := hF 6 (by kernel_rfl) (by kernel_rfl)
          obtain ⟨b, rfl, hbB, hbx⟩ : ∃ b, v15 = .pointer (some ⟨b, 0, none⟩) ∧ wr.heap.size ≤ b ∧ BoxN b 26 #[.string (⟨#[]⟩ : ByteArray), .slice none 0 0] W := hF 10 (by kernel_rfl) (by kernel_rfl)
          obtain ⟨xa, xc, hx, _, _⟩ := hown.shape
          subst hx
          generalize hxn : (insN y T).length = xn at *
          clear hxn
          rw [show vtupAt (.tuple #[dosV K (.slice xa xn xc), .int .i64 0]) 0 = dosV K (.slice xa xn xc) from rfl, show vtupAt (.tuple #[dosV K (.slice xa xn xc), .int .i64 0]) 1 = .int .i64 0 from rfl]
          have z0 := BoxN.cell hbx 0 _ rfl
          have z1 := BoxN.cell hbx 1 _ rfl
          have zf := BoxN.frozen hbx
          have hgd := BoxN.grown HDr.out hW (by simp)
          have hbw := HBr.out.trans ((grown_below hW).mono HBr.out.size)
          have hGlt := HDr.out.lt
          have hWz := hW.size
          have hVG : V.heap.size ≤ G := Nat.le_of_eq HG.out.symm
          have HWs : Hid (BoxN b 26 #[.string (bs K), .slice xa xn xc] ((W.setCell ⟨b, 0, none⟩ (.string (bs K))).setCell ⟨b, 1, none⟩ (.slice xa xn xc)) ∧ OwnK noteK (G + 1) ((W.setCell ⟨b, 0, none⟩ (.string (bs K))).setCell ⟨b, 1, none⟩ (.slice xa xn xc)) (.slice xa xn xc) (insN y T) ∧ DosN G K (.slice ta tn tc) ((W.setCell ⟨b, 0, none⟩ (.string (bs K))).setCell ⟨b, 1, none⟩ (.slice xa xn xc)) ∧ Below V.heap.size V ((W.setCell ⟨b, 0, none⟩ (.string (bs K))).setCell ⟨b, 1, none⟩ (.slice xa xn xc))) :=
            ⟨BoxN.set2 hbx _ _, ((hown.setBox hbx (by decide) 0 _).setBox (hbx.set 0 _) (by decide) 1 _).mono (by omega), BoxN.other (BoxN.other hgd (by omega)) (by omega), (hbw.setCell (p := ⟨b, 0, none⟩) (by show _ ≤ b; omega) _).setCell (p := ⟨b, 1, none⟩) (by show _ ≤ b; omega) _⟩
          have hbG : b ≠ G := by omega
          clear hF hW hbx hgd hbw hown HQ HO HDr HBr
          go_wp2
          refine NoPanic.normal ?_
          clear z0 z1 zf
          generalize ((W.setCell ⟨b, 0, none⟩ (.string (bs K))).setCell ⟨b, 1, none⟩ (.slice xa xn xc)) = W9 at *
          obtain ⟨hx0, hx1, hx3, hx5⟩ := HWs.out
          have b0 := BoxN.cell hx0 0 _ rfl
          have b1 := BoxN.cell hx0 1 _ rfl
          have g0 := BoxN.cell hx3 0 _ rfl
          have g1 := BoxN.cell hx3 1 _ rfl
          have gf := BoxN.frozen hx3
          have HF9 : Hid (HidR V G K (insN y T) (.slice xa xn xc) ((W9.setCell ⟨G, 0, none⟩ (.string (bs K))).setCell ⟨G, 1, none⟩ (.slice xa xn xc))) := 
            ⟨BoxN.set2 hx3 _ _, (hx1.setOther (by omega) 0 _).setOther (by omega) 1 _, (hx5.setCell (p := ⟨G, 0, none⟩) (by show _ ≤ G; omega) _).setCell (p := ⟨G, 1, none⟩) (by show _ ≤ G; omega) _⟩
          clear hx0 hx1 hx3 hx5 HWs HAdd
          go_wp2
          go_roundw
          case rel => exact ⟨k + 1, _, _, _, _, by omega, by go_num, HP1, HF9⟩
          case measure => simp [intOf]; omega
      obtain rfl : sn = k := by omega
      have ji : ¬ ((sn : Int) < (sn : Int)) := by omega
      have hof : ofN T (u : Int) = ofN l (u : Int) := hid2_of HdA.out HP.out
      have hdT : dosB ⟨K, T⟩ = true := HP.out.1
      have htl : T.length ≤ 24 := by have := HP.out.2.1; omega
      obtain ⟨A, hA⟩ : ∃ A, ofN l (u : Int) = A := ⟨_, rfl⟩
      obtain ⟨S, hS⟩ : ∃ S, saltB K (u : Int) = S := ⟨_, rfl⟩
      obtain ⟨PL, hPL⟩ : ∃ PL, proofL (sealsL ⟨K, l⟩) u = PL := ⟨_, rfl⟩
      obtain ⟨QL, hQL⟩ : ∃ QL, proofL (sealsL ⟨K, T⟩) u = QL := ⟨_, rfl⟩
      obtain ⟨R, hR⟩ : ∃ R, rootL (sealsL ⟨K, l⟩) = R := ⟨_, rfl⟩
      have HAll := Lib.hid (hides_all HdA.out hdT hu9 hA (hof.trans hA) hS hPL hQL hR)
      have HPga : Hid (pageE ⟨K, l⟩ (u : Int) = (⟨u, A, S, PL⟩, 0)) := by show _ = _; rw [pageE_ok (by rw [HdA.out]; exact unit_in ⟨by omega, by omega⟩), Int.toNat_natCast, hPL]; show ((⟨_, ofN l _, saltB K _, _⟩ : VPage), (0 : Int)) = _; rw [hA, hS]
      have HPgb : Hid (pageE ⟨K, T⟩ (u : Int) = (⟨u, A, S, QL⟩, 0)) := by show _ = _; rw [pageE_ok (by rw [hdT]; exact unit_in ⟨by omega, by omega⟩), Int.toNat_natCast, hQL]; show ((⟨_, ofN T _, saltB K _, _⟩ : VPage), (0 : Int)) = _; rw [hof, hA, hS]
      have HRe : Hid (rootE ⟨K, l⟩ = (R, 0)) := by show _ = _; unfold rootE; rw [if_pos HdA.out, hR]
      have HdT := Lib.hid hdT
      have HnA : Hid (notesB A = true) := by show _ = _; rw [← hA]; exact notesB_of_dos HdA.out _
      have HSl : Hid (S.length = 32) := by show _ = _; rw [← hS]; exact saltB_length _ _
      have hL := ((HL4.out.step HR.out.2.2).add (P := RowsN noteK (.slice ta tn tc) T) (keep_rows (HR.out.2.1.rows noteOk))).add (P := BoxN G 26 #[.string (bs K), .slice ta tn tc]) (keep_box HR.out.1)
      have htn : T.length = tn := (HR.out.2.1.rows noteOk).len.1.symm
      have HTn := Lib.hid htn
      have HAl : Hid (A.length ≤ 60) := (notesB_ok HnA.out).2.2
      clear hof hdT hA hS hPL hQL hR HP HP2 HR HR1 h1 hk htn
      have HL5 := Lib.hid hL
      clear hL HL4
      have d1 := BoxN.cell (show (BoxN w2.heap.size 26 #[.string (bs K), .slice ra rn rc]) _ from HL5.out.get (by simp)) 1 _ rfl
      have t1 := BoxN.cell (show (BoxN G 26 #[.string (bs K), .slice ta tn tc]) _ from HL5.out.get (by simp)) 1 _ rfl
      go_wp2_with fail
      clear d1 t1
      clear b1 ji
      refine (sameNotes_any _ _ l T _ (show (RowsN noteK (.slice ra rn rc) l) _ from HL5.out.get (by simp)) (show (RowsN noteK (.slice ta tn tc) T) _ from HL5.out.get (by simp))).mono ?_
      rintro e w5 ⟨rfl, hb⟩
      have HL6 := Lib.hid (HL5.out.step hb)
      clear hb HL5
      obtain ⟨sm, hsm⟩ : ∃ sm, (l == T) = sm := ⟨_, rfl⟩
      rw [hsm]
      have HSm := Lib.hid hsm
      clear hsm
      have d0 := BoxN.cell (show (BoxN w2.heap.size 26 #[.string (bs K), .slice ra rn rc]) _ from HL6.out.get (by simp)) 0 _ rfl
      have d1 := BoxN.cell (show (BoxN w2.heap.size 26 #[.string (bs K), .slice ra rn rc]) _ from HL6.out.get (by simp)) 1 _ rfl
      go_wp2_with fail
      clear d0 d1
      refine (vPage_any K _ l (u : Int) _ (show (RowsN noteK (.slice ra rn rc) l) _ from HL6.out.get (by simp)) (by rw [HRn.out]; omega) HL6.out.rounds).mono ?_
      rintro e w6 ⟨nv, pv, rfl, hn, hp, hb⟩
      rw [HPga.out] at hn hp ⊢
      simp only at hn hp ⊢
      obtain ⟨xa, xc, hx, _, _⟩ := hn.shape
      obtain ⟨pa, pc, hpx, _, _⟩ := ownS_shape hp
      subst hx hpx
      generalize hxn : A.length = xn at *
      have HXn := Lib.hid hxn
      generalize hpn : PL.length = pn at *
      have HPn := Lib.hid hpn
      clear hxn hpn
      have hL := ((((HL6.out.step hb).add (P := RowsN noteK (.slice xa xn xc) A) (keep_rows (hn.rows noteOk))).add (P := StrsN (.slice pa pn pc) PL) (keep_strs hp.strs)).alloc (.cells #[.int .i64 (u : Int), .slice xa xn xc, .string (bs S), .slice pa pn pc] 39)).add (P := BoxN w6.heap.size 39 #[.int .i64 (u : Int), .slice xa xn xc, .string (bs S), .slice pa pn pc]) (keep_box (box_new w6 _ _))
      have HL7 := Lib.hid hL
      clear hL hb hn hp HL6 HPga
      have t0 := BoxN.cell (show (BoxN G 26 #[.string (bs K), .slice ta tn tc]) _ from HL7.out.get (by simp)) 0 _ rfl
      have t1 := BoxN.cell (show (BoxN G 26 #[.string (bs K), .slice ta tn tc]) _ from HL7.out.get (by simp)) 1 _ rfl
      go_wp2_with fail
      clear t0 t1
      refine (vPage_any K _ T (u : Int) _ (show (RowsN noteK (.slice ta tn tc) T) _ from HL7.out.get (by simp)) (by omega) HL7.out.rounds).mono ?_
      rintro e w7 ⟨nv, pv, rfl, hn, hp, hb⟩
      rw [HPgb.out] at hn hp ⊢
      simp only at hn hp ⊢
      obtain ⟨ya, yc, hx, _, _⟩ := hn.shape
      obtain ⟨qa, qc, hpx, _, _⟩ := ownS_shape hp
      subst hx hpx
      rw [HXn.out]
      rw [show QL.length = pn from HAll.out.1.symm]
      rw [HXn.out] at hn
      rw [show QL.length = pn from HAll.out.1.symm] at hp
      have hL := ((((HL7.out.step hb).add (P := RowsN noteK (.slice ya xn yc) A) (keep_rows (hn.rows noteOk))).add (P := StrsN (.slice qa pn qc) QL) (keep_strs hp.strs)).alloc (.cells #[.int .i64 (u : Int), .slice ya xn yc, .string (bs S), .slice qa pn qc] 39)).add (P := BoxN w7.heap.size 39 #[.int .i64 (u : Int), .slice ya xn yc, .string (bs S), .slice qa pn qc]) (keep_box (box_new w7 _ _))
      have HL8 := Lib.hid hL
      clear hL hb hn hp HL7 HPgb
      have d0 := BoxN.cell (show (BoxN w2.heap.size 26 #[.string (bs K), .slice ra rn rc]) _ from HL8.out.get (by simp)) 0 _ rfl
      have d1 := BoxN.cell (show (BoxN w2.heap.size 26 #[.string (bs K), .slice ra rn rc]) _ from HL8.out.get (by simp)) 1 _ rfl
      go_wp2_with fail
      clear d0 d1
      refine (vRoot_any K _ l _ (show (RowsN noteK (.slice ra rn rc) l) _ from HL8.out.get (by simp)) (by rw [HRn.out]; omega) HL8.out.rounds).mono ?_
      rintro e w8 ⟨rfl, hb⟩
      rw [HRe.out]
      simp only
      have HL9 := Lib.hid (HL8.out.step hb)
      clear hb HL8 HRe
      have huu : ((u : Int) != (u : Int)) = false := by simp
      have hss : ((bs S).toList != (bs S).toList) = false := by simp
      have hpp : ((pn : Int) != (pn : Int)) = false := by simp
      have p0 := BoxN.cell (show (BoxN w6.heap.size 39 #[.int .i64 (u : Int), .slice xa xn xc, .string (bs S), .slice pa pn pc]) _ from HL9.out.get (by simp)) 0 _ rfl
      have p1 := BoxN.cell (show (BoxN w6.heap.size 39 #[.int .i64 (u : Int), .slice xa xn xc, .string (bs S), .slice pa pn pc]) _ from HL9.out.get (by simp)) 1 _ rfl
      have p2 := BoxN.cell (show (BoxN w6.heap.size 39 #[.int .i64 (u : Int), .slice xa xn xc, .string (bs S), .slice pa pn pc]) _ from HL9.out.get (by simp)) 2 _ rfl
      have p3 := BoxN.cell (show (BoxN w6.heap.size 39 #[.int .i64 (u : Int), .slice xa xn xc, .string (bs S), .slice pa pn pc]) _ from HL9.out.get (by simp)) 3 _ rfl
      have q0 := BoxN.cell (show (BoxN w7.heap.size 39 #[.int .i64 (u : Int), .slice ya xn yc, .string (bs S), .slice qa pn qc]) _ from HL9.out.get (by simp)) 0 _ rfl
      have q1 := BoxN.cell (show (BoxN w7.heap.size 39 #[.int .i64 (u : Int), .slice ya xn yc, .string (bs S), .slice qa pn qc]) _ from HL9.out.get (by simp)) 1 _ rfl
      have q2 := BoxN.cell (show (BoxN w7.heap.size 39 #[.int .i64 (u : Int), .slice ya xn yc, .string (bs S), .slice qa pn qc]) _ from HL9.out.get (by simp)) 2 _ rfl
      have q3 := BoxN.cell (show (BoxN w7.heap.size 39 #[.int .i64 (u : Int), .slice ya xn yc, .string (bs S), .slice qa pn qc]) _ from HL9.out.get (by simp)) 3 _ rfl
      go_wp2_with fail
      clear p0 p1 p2 p3 q0 q1 q2 q3
      refine (sameNotes_any _ _ A A _ (show (RowsN noteK (.slice xa xn xc) A) _ from HL9.out.get (by simp)) (show (RowsN noteK (.slice ya xn yc) A) _ from HL9.out.get (by simp))).mono ?_
      rintro e w9 ⟨rfl, hb⟩
      rw [beq_self_eq_true]
      have HL10 := Lib.hid (HL9.out.step hb).rebase
      have HB10 := Lib.hid (HL9.out.step hb).below
      clear hb HL9
      have p3 := BoxN.cell (show (BoxN w6.heap.size 39 #[.int .i64 (u : Int), .slice xa xn xc, .string (bs S), .slice pa pn pc]) _ from HL10.out.get (by simp)) 3 _ rfl
      have q3 := BoxN.cell (show (BoxN w7.heap.size 39 #[.int .i64 (u : Int), .slice ya xn yc, .string (bs S), .slice qa pn qc]) _ from HL10.out.get (by simp)) 3 _ rfl
      go_wp2
      clear p3 q3 huu hss hpp
      go_loopw [27] (fun i wr => ∃ k : Nat, k ≤ pn ∧ i = .int .i64 k ∧ Hid (Below w9.heap.size w9 wr)) (fun i _ => pn - (intOf i).toNat)
      case atStart => exact ⟨0, Nat.zero_le _, rfl, Lib.hid (Below.refl _ _)⟩
      case round =>
        obtain ⟨k, hk, rfl, HB⟩ := hrel
        have hL := HL10.out.step HB.out
        by_cases h1 : k < pn
        · have ji : (k : Int) < (pn : Int) := by omega
          have j0 : 0 ≤ (k : Int) := by omega
          have wk : IntKind.i64.wrap ((k : Int) + 1) = (k : Int) + 1 := IntWalk.i64_in _ (by have := HAll.out.2.2.2.2.2.2.2; omega)
          obtain ⟨gp, op, hpe, _, x1⟩ := StrsAt.at (show StrsAt _ _ (.slice pa pn pc) PL from (show (StrsN (.slice pa pn pc) PL) _ from hL.get (by simp))) k (by rw [HPn.out]; exact h1)
          obtain ⟨gq, oq, hqe, _, x2⟩ := StrsAt.at (show StrsAt _ _ (.slice qa pn qc) QL from (show (StrsN (.slice qa pn qc) QL) _ from hL.get (by simp))) k (by rw [show QL.length = pn from HAll.out.1.symm]; exact h1)
          subst hpe hqe
          have s1 : (((bs (PL.getD k [])).size : Int) != 32) = false := vsize32_f (HAll.out.2.1 _ (by rw [List.getD_eq_getElem?_getD, List.getElem?_eq_getElem (by rw [HPn.out]; exact h1)]; exact List.getElem_mem _))
          have s2 : (((bs (QL.getD k [])).size : Int) != 32) = false := vsize32_f (HAll.out.2.2.1 _ (by rw [List.getD_eq_getElem?_getD, List.getElem?_eq_getElem (by rw [show QL.length = pn from HAll.out.1.symm]; exact h1)]; exact List.getElem_mem _))
          have p3 := BoxN.cell (show (BoxN w6.heap.size 39 #[.int .i64 (u : Int), .slice xa xn xc, .string (bs S), .slice (some ⟨gp, op, none⟩) pn pc]) _ from hL.get (by simp)) 3 _ rfl
          have q3 := BoxN.cell (show (BoxN w7.heap.size 39 #[.int .i64 (u : Int), .slice ya xn yc, .string (bs S), .slice (some ⟨gq, oq, none⟩) pn qc]) _ from hL.get (by simp)) 3 _ rfl
          generalize bs (PL.getD k []) = X1 at *
          generalize bs (QL.getD k []) = X2 at *
          clear hL
          go_wp2
          go_roundw
          case rel => exact ⟨k + 1, by omega, by go_num, HB⟩
          case measure => simp [intOf]; omega
        obtain rfl : pn = k := by omega
        have ji : ¬ ((pn : Int) < (pn : Int)) := by omega
        have HL11 := Lib.hid hL
        clear hL HB HL10 h1 hk
        have p3 := BoxN.cell (show (BoxN w6.heap.size 39 #[.int .i64 (u : Int), .slice xa xn xc, .string (bs S), .slice pa pn pc]) _ from HL11.out.get (by simp)) 3 _ rfl
        have q3 := BoxN.cell (show (BoxN w7.heap.size 39 #[.int .i64 (u : Int), .slice ya xn yc, .string (bs S), .slice qa pn qc]) _ from HL11.out.get (by simp)) 3 _ rfl
        go_wp2_with fail
        clear p3 q3
        clear ji
        refine (same_any _ _ PL QL _ (show (StrsN (.slice pa pn pc) PL) _ from HL11.out.get (by simp)) (show (StrsN (.slice qa pn qc) QL) _ from HL11.out.get (by simp))).mono ?_
        rintro e w10 ⟨rfl, hb⟩
        have HL12 := Lib.hid (HL11.out.step hb)
        clear hb HL11
        obtain ⟨al, hal⟩ : ∃ al, (PL == QL) = al := ⟨_, rfl⟩
        rw [hal]
        obtain ⟨cc, hcc⟩ : ∃ cc, checkB R ⟨(u : Int), A, S, QL⟩ = cc := ⟨_, rfl⟩
        have HCk := Lib.hid (fun W h1 h2 hT => check_any R (u : Int) (.slice ya xn yc) A S (.slice qa pn qc) QL W h1 (by rw [HXn.out]; have := HAl.out; omega) h2 (by rw [show QL.length = pn from HAll.out.1.symm]; have := HAll.out.2.2.2.2.2.2.2; omega) hT)
        rw [hcc] at HCk
        cases sm
        rotate_left
        · have hlT : l = T := beq_iff_eq.1 HSm.out
          have hpq : PL = QL := HAll.out.2.2.2.1 hlT
          obtain rfl : al = true := by rw [← hal]; exact beq_iff_eq.2 hpq
          obtain rfl : cc = true := by rw [← hcc]; exact HAll.out.2.2.2.2.2.1 hpq
          clear hlT hpq hal hcc
          have HLs := Lib.hid (fun W (hW : w10.grownBy W none) => HL12.out.step (grown_below hW))
          go_wp2
          refine wp_region_calm ⟨[], fun _ _ _ => True, fun _ => [], 99, none, 1000⟩ (by kernel_rfl) (by kernel_rfl) (by kernel_rfl) (fun g h => by cases h) (fun q hq v W W' c h hg hc => h) ?_
          iterate 3 (refine calm_quiet (v := ?_) (by rfl) (by rfl) (fun W hW hD => ?_) ?_; rotate_left; (· (clear hD hW; go_simp; try with_reducible rfl)); simp only [Act.put, List.setIfInBounds_toArray, List.set_cons_zero, List.set_cons_succ, Nat.reduceAdd, Nat.zero_add])
          iterate 1 (refine calm_skip (by rfl) (by rfl) ?_; simp only [Act.put, List.setIfInBounds_toArray, List.set_cons_zero, List.set_cons_succ, Nat.reduceAdd, Nat.zero_add])
          iterate 2 (refine calm_quiet (v := ?_) (by rfl) (by rfl) (fun W hW hD => ?_) ?_; rotate_left; (· (clear hD hW; go_simp; try with_reducible rfl)); simp only [Act.put, List.setIfInBounds_toArray, List.set_cons_zero, List.set_cons_succ, Nat.reduceAdd, Nat.zero_add])
          iterate 6 (refine calm_skip (by rfl) (by rfl) ?_; simp only [Act.put, List.setIfInBounds_toArray, List.set_cons_zero, List.set_cons_succ, Nat.reduceAdd, Nat.zero_add])
          iterate 1 (refine calm_quiet (v := ?_) (by rfl) (by rfl) (fun W hW hD => ?_) ?_; rotate_left; (· (clear hD hW; go_simp; try with_reducible rfl)); simp only [Act.put, List.setIfInBounds_toArray, List.set_cons_zero, List.set_cons_succ, Nat.reduceAdd, Nat.zero_add])
          refine calm_nil fun W hW hF => ?_
          have HL13 := Lib.hid (HLs.out W hW)
          clear hF hW HLs HL12
          have HLs := Lib.hid (fun W' (hW : W.grownBy W' none) => HL13.out.step (grown_below hW))
          have HQ : Hid (∀ W', W.grownBy W' none → (W'.cell? ⟨w7.heap.size, 0, none⟩ = some (.int .i64 (u : Int)) ∧ W'.cell? ⟨w7.heap.size, 1, none⟩ = some (.slice ya xn yc) ∧ W'.cell? ⟨w7.heap.size, 2, none⟩ = some (.string (bs S)) ∧ W'.cell? ⟨w7.heap.size, 3, none⟩ = some (.slice qa pn qc)) ∧ (W'.cell? ⟨w6.heap.size, 0, none⟩ = some (.int .i64 (u : Int)) ∧ W'.cell? ⟨w6.heap.size, 1, none⟩ = some (.slice xa xn xc) ∧ W'.cell? ⟨w6.heap.size, 2, none⟩ = some (.string (bs S)) ∧ W'.cell? ⟨w6.heap.size, 3, none⟩ = some (.slice pa pn pc))) := fun W' hW => by
            have h := HLs.out W' hW
            have hq := (show (BoxN w7.heap.size 39 #[.int .i64 (u : Int), .slice ya xn yc, .string (bs S), .slice qa pn qc]) _ from h.get (by simp))
            have hp := (show (BoxN w6.heap.size 39 #[.int .i64 (u : Int), .slice xa xn xc, .string (bs S), .slice pa pn pc]) _ from h.get (by simp))
            exact ⟨⟨BoxN.cell hq 0 _ rfl, BoxN.cell hq 1 _ rfl, BoxN.cell hq 2 _ rfl, BoxN.cell hq 3 _ rfl⟩, ⟨BoxN.cell hp 0 _ rfl, BoxN.cell hp 1 _ rfl, BoxN.cell hp 2 _ rfl, BoxN.cell hp 3 _ rfl⟩⟩
          go_wp2
          refine wp_region_calm ⟨[2], CallF W.heap.size 7 9 2 true (pageHF u A S PL) (pageHF u A S QL), fun _ => [], 99, none, 1000⟩ (by kernel_rfl) (by kernel_rfl) (by kernel_rfl) (fun g h => by cases h) (fun q hq v W W' c h hg hc => ?_) ?_
          · cases c with
            | some g => obtain ⟨_, _, i, j, u, hd, _⟩ := hc g rfl; simp at hd
            | none => exact callF_kept h hg
          iterate 2 (refine calm_quiet (v := ?_) (by rfl) (by rfl) (fun W hW hD => ?_) ?_; rotate_left; (· (obtain ⟨⟨z0, z1, z2, z3⟩, y0, y1, y2, y3⟩ := HQ.out W hW; clear hD hW; go_simp; try with_reducible rfl)); simp only [Act.put, List.setIfInBounds_toArray, List.set_cons_zero, List.set_cons_succ, Nat.reduceAdd, Nat.zero_add])
          refine calm_makes (by rfl) (by rfl) (fun W' hW hD Kc hK => ?_) (fun v210 => ?_)
          · have h := HLs.out W' hW
            refine wp_of_call (f := 20) (args := #[.string (bs R), pageV (u : Int) (.slice ya xn yc) S (.slice qa pn qc)]) ?_ ((HCk.out W' (show (RowsN noteK (.slice ya xn yc) A) _ from h.get (by simp)) (show (StrsN (.slice qa pn qc) QL) _ from h.get (by simp)) h.rounds).mono ?_)
            · clear hD hW hK h
              go_simp
            · rintro e w5 ⟨rfl, hb5⟩
              exact ⟨_, rfl, hK _ _ (made_plain (by exact ((callF_c 2 (by decide) (by decide)).2 rfl : CallF W.heap.size 7 9 2 true (pageHF u A S PL) (pageHF u A S QL) 2 (.bool true) w5)) hb5 rfl)⟩
          simp only [Act.put, List.setIfInBounds_toArray, List.set_cons_zero, List.set_cons_succ, Nat.reduceAdd, Nat.zero_add]
          iterate 1 (refine calm_quiet (v := ?_) (by rfl) (by rfl) (fun W hW hD => ?_) ?_; rotate_left; (· (clear hD hW; go_simp; try with_reducible rfl)); simp only [Act.put, List.setIfInBounds_toArray, List.set_cons_zero, List.set_cons_succ, Nat.reduceAdd, Nat.zero_add])
          refine calm_quiet (v := .bool true) (by rfl) (by rfl) (fun W' hW hD => ?_) ?_
          · obtain rfl : v210 = .bool true := (callF_c (ka := 7) (kb := 9) 2 (B := W.heap.size) (c := true) (p := pageHF u A S PL) (q := pageHF u A S QL) (W := W') (v := v210) (by decide) (by decide)).1 (hD [] 2 (by kernel_rfl) (by kernel_rfl) (by kernel_rfl))
            clear hD hW
            go_simp
          simp only [Act.put, List.setIfInBounds_toArray, List.set_cons_zero, List.set_cons_succ, Nat.reduceAdd, Nat.zero_add]
          iterate 1 (refine calm_quiet (v := ?_) (by rfl) (by rfl) (fun W hW hD => ?_) ?_; rotate_left; (· (clear hD hW; go_simp; try with_reducible rfl)); simp only [Act.put, List.setIfInBounds_toArray, List.set_cons_zero, List.set_cons_succ, Nat.reduceAdd, Nat.zero_add])
          iterate 5 (refine calm_skip (by rfl) (by rfl) ?_; simp only [Act.put, List.setIfInBounds_toArray, List.set_cons_zero, List.set_cons_succ, Nat.reduceAdd, Nat.zero_add])
          iterate 2 (refine calm_quiet (v := ?_) (by rfl) (by rfl) (fun W hW hD => ?_) ?_; rotate_left; (· (clear hD hW; go_simp; try with_reducible rfl)); simp only [Act.put, List.setIfInBounds_toArray, List.set_cons_zero, List.set_cons_succ, Nat.reduceAdd, Nat.zero_add])
          refine calm_nil fun W' hW hF => ?_
          have HBf := Lib.hid (HB10.out.trans ((HLs.out W' hW).below.mono HB10.out.size))
          clear hF hW HLs HL13 HQ
          go_wp2
          go_ret
          exact ⟨rfl, HBf.out⟩
        have hlT : l ≠ T := beq_eq_false_iff_ne.1 HSm.out
        cases al
        rotate_left
        · have hpq : PL = QL := beq_iff_eq.1 hal
          have HM : Hid (meetB (allH ⟨K, l⟩) (allH ⟨K, T⟩) = true) := HAll.out.2.2.2.2.1 hlT hpq
          obtain rfl : cc = true := by rw [← hcc]; exact HAll.out.2.2.2.2.2.1 hpq
          clear hlT hpq hal hcc
          have HLs := Lib.hid (fun W (hW : w10.grownBy W none) => HL12.out.step (grown_below hW))
          have HQ : Hid (∀ W, w10.grownBy W none → (W.cell? ⟨w2.heap.size, 0, none⟩ = some (.string (bs K)) ∧ W.cell? ⟨w2.heap.size, 1, none⟩ = some (.slice ra rn rc)) ∧ (W.cell? ⟨G, 0, none⟩ = some (.string (bs K)) ∧ W.cell? ⟨G, 1, none⟩ = some (.slice ta tn tc))) := fun W hW => by
            have h := HLs.out W hW
            exact ⟨⟨BoxN.cell (show (BoxN w2.heap.size 26 #[.string (bs K), .slice ra rn rc]) _ from h.get (by simp)) 0 _ rfl, BoxN.cell (show (BoxN w2.heap.size 26 #[.string (bs K), .slice ra rn rc]) _ from h.get (by simp)) 1 _ rfl⟩, ⟨BoxN.cell (show (BoxN G 26 #[.string (bs K), .slice ta tn tc]) _ from h.get (by simp)) 0 _ rfl, BoxN.cell (show (BoxN G 26 #[.string (bs K), .slice ta tn tc]) _ from h.get (by simp)) 1 _ rfl⟩⟩
          go_wp2
          refine wp_region_calm ⟨[7, 9, 10], CallF w10.heap.size 7 9 99 true (allH ⟨K, l⟩) (allH ⟨K, T⟩), fun _ => [], 99, none, 1000⟩ (by kernel_rfl) (by kernel_rfl) (by kernel_rfl) (fun g h => by cases h) (fun q hq v W W' c h hg hc => ?_) ?_
          · cases c with
            | some g => obtain ⟨_, _, i, j, u, hd, _⟩ := hc g rfl; simp at hd
            | none => exact callF_kept h hg
          iterate 6 (refine calm_quiet (v := ?_) (by rfl) (by rfl) (fun W hW hD => ?_) ?_; rotate_left; (· (clear hD hW; go_simp; try with_reducible rfl)); simp only [Act.put, List.setIfInBounds_toArray, List.set_cons_zero, List.set_cons_succ, Nat.reduceAdd, Nat.zero_add])
          iterate 1 (refine calm_quiet (v := ?_) (by rfl) (by rfl) (fun W hW hD => ?_) ?_; rotate_left; (· (obtain ⟨⟨z0, z1⟩, y0, y1⟩ := HQ.out W hW; clear hD hW; go_simp; try with_reducible rfl)); simp only [Act.put, List.setIfInBounds_toArray, List.set_cons_zero, List.set_cons_succ, Nat.reduceAdd, Nat.zero_add])
          refine calm_makes (by rfl) (by rfl) (fun W hW hD Kc hK => ?_) (fun v202 => ?_)
          · have h := HLs.out W hW
            have hws := hW.size
            refine wp_of_call (f := 15) (args := #[dosV K (.slice ra rn rc)]) ?_ ((refAll_any K (.slice ra rn rc) l W (show (RowsN noteK (.slice ra rn rc) l) _ from h.get (by simp)) (by rw [HRn.out]; omega) (dosB_z HdA.out).2.1 HKl.out h.rounds).mono ?_)
            · clear hD hW hK h
              go_simp
            · rintro e w5 ⟨rv, rfl, ho, hb5⟩
              exact ⟨_, rfl, hK _ _ (made_below (by exact ((callF_a 7).2 (ho.mono hws) : CallF w10.heap.size 7 9 99 true (allH ⟨K, l⟩) (allH ⟨K, T⟩) 7 rv w5)) hb5 (fun g hg => (World.ownsRow.lt ho g hg)))⟩
          simp only [Act.put, List.setIfInBounds_toArray, List.set_cons_zero, List.set_cons_succ, Nat.reduceAdd, Nat.zero_add]
          iterate 1 (refine calm_quiet (v := ?_) (by rfl) (by rfl) (fun W hW hD => ?_) ?_; rotate_left; (· (obtain ⟨⟨z0, z1⟩, y0, y1⟩ := HQ.out W hW; clear hD hW; go_simp; try with_reducible rfl)); simp only [Act.put, List.setIfInBounds_toArray, List.set_cons_zero, List.set_cons_succ, Nat.reduceAdd, Nat.zero_add])
          refine calm_makes (by rfl) (by rfl) (fun W hW hD Kc hK => ?_) (fun v204 => ?_)
          · have h := HLs.out W hW
            have hws := hW.size
            refine wp_of_call (f := 15) (args := #[dosV K (.slice ta tn tc)]) ?_ ((refAll_any K (.slice ta tn tc) T W (show (RowsN noteK (.slice ta tn tc) T) _ from h.get (by simp)) (by omega) (dosB_z HdT.out).2.1 HKl.out h.rounds).mono ?_)
            · clear hD hW hK h
              go_simp
            · rintro e w5 ⟨rv, rfl, ho, hb5⟩
              exact ⟨_, rfl, hK _ _ (made_below (by exact ((callF_b 9 (by decide)).2 (ho.mono hws) : CallF w10.heap.size 7 9 99 true (allH ⟨K, l⟩) (allH ⟨K, T⟩) 9 rv w5)) hb5 (fun g hg => (World.ownsRow.lt ho g hg)))⟩
          simp only [Act.put, List.setIfInBounds_toArray, List.set_cons_zero, List.set_cons_succ, Nat.reduceAdd, Nat.zero_add]
          refine calm_makes (by rfl) (by rfl) (fun W hW hD Kc hK => ?_) (fun v205 => ?_)
          · have h13 := (callF_a (B := w10.heap.size) (kb := 9) (kc := 99) 7 (c := true) (p := allH ⟨K, l⟩) (q := allH ⟨K, T⟩) (W := W) (v := v202)).1 (hD [] 7 (by kernel_rfl) (by kernel_rfl) (by kernel_rfl))
            have h15 := (callF_b (B := w10.heap.size) (ka := 7) (kc := 99) 9 (c := true) (p := allH ⟨K, l⟩) (q := allH ⟨K, T⟩) (W := W) (v := v204) (by decide)).1 (hD [] 9 (by kernel_rfl) (by kernel_rfl) (by kernel_rfl))
            refine wp_of_call (f := 14) (args := #[v202, v204]) ?_ ((collided_any v202 v204 (allH ⟨K, l⟩) (allH ⟨K, T⟩) W h13.strs h15.strs (allH_few HdA.out).1 (allH_few HdT.out).1 (allH_few HdT.out).2).mono ?_)
            · clear hD hW hK h13 h15
              go_simp
            · rintro e w5 ⟨rfl, hb5⟩
              exact ⟨_, rfl, hK _ _ (made_plain (by exact ((callF_d 10 (by decide) (by decide) (by decide)).2 (by rw [HM.out]) : CallF w10.heap.size 7 9 99 true (allH ⟨K, l⟩) (allH ⟨K, T⟩) 10 (.bool (meetB (allH ⟨K, l⟩) (allH ⟨K, T⟩))) w5)) hb5 rfl)⟩
          simp only [Act.put, List.setIfInBounds_toArray, List.set_cons_zero, List.set_cons_succ, Nat.reduceAdd, Nat.zero_add]
          refine calm_quiet (v := .bool false) (by rfl) (by rfl) (fun W hW hD => ?_) ?_
          · obtain rfl : v205 = .bool true := (callF_d (B := w10.heap.size) (ka := 7) (kb := 9) (kc := 99) 10 (c := true) (p := allH ⟨K, l⟩) (q := allH ⟨K, T⟩) (W := W) (v := v205) (by decide) (by decide) (by decide)).1 (hD [] 10 (by kernel_rfl) (by kernel_rfl) (by kernel_rfl))
            clear hD hW
            go_simp
          simp only [Act.put, List.setIfInBounds_toArray, List.set_cons_zero, List.set_cons_succ, Nat.reduceAdd, Nat.zero_add]
          iterate 1 (refine calm_quiet (v := ?_) (by rfl) (by rfl) (fun W hW hD => ?_) ?_; rotate_left; (· (clear hD hW; go_simp; try with_reducible rfl)); simp only [Act.put, List.setIfInBounds_toArray, List.set_cons_zero, List.set_cons_succ, Nat.reduceAdd, Nat.zero_add])
          refine calm_nil fun W hW hF => ?_
          have HL13 := Lib.hid (HLs.out W hW)
          clear hF hW HLs HL12 HQ
          have HLs := Lib.hid (fun W' (hW : W.grownBy W' none) => HL13.out.step (grown_below hW))
          have HQ : Hid (∀ W', W.grownBy W' none → (W'.cell? ⟨w7.heap.size, 0, none⟩ = some (.int .i64 (u : Int)) ∧ W'.cell? ⟨w7.heap.size, 1, none⟩ = some (.slice ya xn yc) ∧ W'.cell? ⟨w7.heap.size, 2, none⟩ = some (.string (bs S)) ∧ W'.cell? ⟨w7.heap.size, 3, none⟩ = some (.slice qa pn qc)) ∧ (W'.cell? ⟨w6.heap.size, 0, none⟩ = some (.int .i64 (u : Int)) ∧ W'.cell? ⟨w6.heap.size, 1, none⟩ = some (.slice xa xn xc) ∧ W'.cell? ⟨w6.heap.size, 2, none⟩ = some (.string (bs S)) ∧ W'.cell? ⟨w6.heap.size, 3, none⟩ = some (.slice pa pn pc))) := fun W' hW => by
            have h := HLs.out W' hW
            have hq := (show (BoxN w7.heap.size 39 #[.int .i64 (u : Int), .slice ya xn yc, .string (bs S), .slice qa pn qc]) _ from h.get (by simp))
            have hp := (show (BoxN w6.heap.size 39 #[.int .i64 (u : Int), .slice xa xn xc, .string (bs S), .slice pa pn pc]) _ from h.get (by simp))
            exact ⟨⟨BoxN.cell hq 0 _ rfl, BoxN.cell hq 1 _ rfl, BoxN.cell hq 2 _ rfl, BoxN.cell hq 3 _ rfl⟩, ⟨BoxN.cell hp 0 _ rfl, BoxN.cell hp 1 _ rfl, BoxN.cell hp 2 _ rfl, BoxN.cell hp 3 _ rfl⟩⟩
          go_wp2
          refine wp_region_calm ⟨[2], CallF W.heap.size 7 9 2 true (pageHF u A S PL) (pageHF u A S QL), fun _ => [], 99, none, 1000⟩ (by kernel_rfl) (by kernel_rfl) (by kernel_rfl) (fun g h => by cases h) (fun q hq v W W' c h hg hc => ?_) ?_
          · cases c with
            | some g => obtain ⟨_, _, i, j, u, hd, _⟩ := hc g rfl; simp at hd
            | none => exact callF_kept h hg
          iterate 2 (refine calm_quiet (v := ?_) (by rfl) (by rfl) (fun W hW hD => ?_) ?_; rotate_left; (· (obtain ⟨⟨z0, z1, z2, z3⟩, y0, y1, y2, y3⟩ := HQ.out W hW; clear hD hW; go_simp; try with_reducible rfl)); simp only [Act.put, List.setIfInBounds_toArray, List.set_cons_zero, List.set_cons_succ, Nat.reduceAdd, Nat.zero_add])
          refine calm_makes (by rfl) (by rfl) (fun W' hW hD Kc hK => ?_) (fun v210 => ?_)
          · have h := HLs.out W' hW
            refine wp_of_call (f := 20) (args := #[.string (bs R), pageV (u : Int) (.slice ya xn yc) S (.slice qa pn qc)]) ?_ ((HCk.out W' (show (RowsN noteK (.slice ya xn yc) A) _ from h.get (by simp)) (show (StrsN (.slice qa pn qc) QL) _ from h.get (by simp)) h.rounds).mono ?_)
            · clear hD hW hK h
              go_simp
            · rintro e w5 ⟨rfl, hb5⟩
              exact ⟨_, rfl, hK _ _ (made_plain (by exact ((callF_c 2 (by decide) (by decide)).2 rfl : CallF W.heap.size 7 9 2 true (pageHF u A S PL) (pageHF u A S QL) 2 (.bool true) w5)) hb5 rfl)⟩
          simp only [Act.put, List.setIfInBounds_toArray, List.set_cons_zero, List.set_cons_succ, Nat.reduceAdd, Nat.zero_add]
          iterate 1 (refine calm_quiet (v := ?_) (by rfl) (by rfl) (fun W hW hD => ?_) ?_; rotate_left; (· (clear hD hW; go_simp; try with_reducible rfl)); simp only [Act.put, List.setIfInBounds_toArray, List.set_cons_zero, List.set_cons_succ, Nat.reduceAdd, Nat.zero_add])
          refine calm_quiet (v := .bool true) (by rfl) (by rfl) (fun W' hW hD => ?_) ?_
          · obtain rfl : v210 = .bool true := (callF_c (ka := 7) (kb := 9) 2 (B := W.heap.size) (c := true) (p := pageHF u A S PL) (q := pageHF u A S QL) (W := W') (v := v210) (by decide) (by decide)).1 (hD [] 2 (by kernel_rfl) (by kernel_rfl) (by kernel_rfl))
            clear hD hW
            go_simp
          simp only [Act.put, List.setIfInBounds_toArray, List.set_cons_zero, List.set_cons_succ, Nat.reduceAdd, Nat.zero_add]
          iterate 1 (refine calm_quiet (v := ?_) (by rfl) (by rfl) (fun W hW hD => ?_) ?_; rotate_left; (· (clear hD hW; go_simp; try with_reducible rfl)); simp only [Act.put, List.setIfInBounds_toArray, List.set_cons_zero, List.set_cons_succ, Nat.reduceAdd, Nat.zero_add])
          iterate 5 (refine calm_skip (by rfl) (by rfl) ?_; simp only [Act.put, List.setIfInBounds_toArray, List.set_cons_zero, List.set_cons_succ, Nat.reduceAdd, Nat.zero_add])
          iterate 2 (refine calm_quiet (v := ?_) (by rfl) (by rfl) (fun W hW hD => ?_) ?_; rotate_left; (· (clear hD hW; go_simp; try with_reducible rfl)); simp only [Act.put, List.setIfInBounds_toArray, List.set_cons_zero, List.set_cons_succ, Nat.reduceAdd, Nat.zero_add])
          refine calm_nil fun W' hW hF => ?_
          have HBf := Lib.hid (HB10.out.trans ((HLs.out W' hW).below.mono HB10.out.size))
          clear hF hW HLs HL13 HQ
          go_wp2
          go_ret
          exact ⟨rfl, HBf.out⟩
        have hpq : PL ≠ QL := beq_eq_false_iff_ne.1 hal
        cases cc
        · clear hlT hpq hal hcc
          have HLs := Lib.hid (fun W (hW : w10.grownBy W none) => HL12.out.step (grown_below hW))
          go_wp2
          refine wp_region_calm ⟨[], fun _ _ _ => True, fun _ => [], 99, none, 1000⟩ (by kernel_rfl) (by kernel_rfl) (by kernel_rfl) (fun g h => by cases h) (fun q hq v W W' c h hg hc => h) ?_
          iterate 6 (refine calm_quiet (v := ?_) (by rfl) (by rfl) (fun W hW hD => ?_) ?_; rotate_left; (· (clear hD hW; go_simp; try with_reducible rfl)); simp only [Act.put, List.setIfInBounds_toArray, List.set_cons_zero, List.set_cons_succ, Nat.reduceAdd, Nat.zero_add])
          iterate 6 (refine calm_skip (by rfl) (by rfl) ?_; simp only [Act.put, List.setIfInBounds_toArray, List.set_cons_zero, List.set_cons_succ, Nat.reduceAdd, Nat.zero_add])
          iterate 1 (refine calm_quiet (v := ?_) (by rfl) (by rfl) (fun W hW hD => ?_) ?_; rotate_left; (· (clear hD hW; go_simp; try with_reducible rfl)); simp only [Act.put, List.setIfInBounds_toArray, List.set_cons_zero, List.set_cons_succ, Nat.reduceAdd, Nat.zero_add])
          refine calm_nil fun W hW hF => ?_
          have HL13 := Lib.hid (HLs.out W hW)
          clear hF hW HLs HL12
          have HLs := Lib.hid (fun W' (hW : W.grownBy W' none) => HL13.out.step (grown_below hW))
          have HQ : Hid (∀ W', W.grownBy W' none → (W'.cell? ⟨w7.heap.size, 0, none⟩ = some (.int .i64 (u : Int)) ∧ W'.cell? ⟨w7.heap.size, 1, none⟩ = some (.slice ya xn yc) ∧ W'.cell? ⟨w7.heap.size, 2, none⟩ = some (.string (bs S)) ∧ W'.cell? ⟨w7.heap.size, 3, none⟩ = some (.slice qa pn qc)) ∧ (W'.cell? ⟨w6.heap.size, 0, none⟩ = some (.int .i64 (u : Int)) ∧ W'.cell? ⟨w6.heap.size, 1, none⟩ = some (.slice xa xn xc) ∧ W'.cell? ⟨w6.heap.size, 2, none⟩ = some (.string (bs S)) ∧ W'.cell? ⟨w6.heap.size, 3, none⟩ = some (.slice pa pn pc))) := fun W' hW => by
            have h := HLs.out W' hW
            have hq := (show (BoxN w7.heap.size 39 #[.int .i64 (u : Int), .slice ya xn yc, .string (bs S), .slice qa pn qc]) _ from h.get (by simp))
            have hp := (show (BoxN w6.heap.size 39 #[.int .i64 (u : Int), .slice xa xn xc, .string (bs S), .slice pa pn pc]) _ from h.get (by simp))
            exact ⟨⟨BoxN.cell hq 0 _ rfl, BoxN.cell hq 1 _ rfl, BoxN.cell hq 2 _ rfl, BoxN.cell hq 3 _ rfl⟩, ⟨BoxN.cell hp 0 _ rfl, BoxN.cell hp 1 _ rfl, BoxN.cell hp 2 _ rfl, BoxN.cell hp 3 _ rfl⟩⟩
          go_wp2
          refine wp_region_calm ⟨[2], CallF W.heap.size 7 9 2 false (pageHF u A S PL) (pageHF u A S QL), fun _ => [], 99, none, 1000⟩ (by kernel_rfl) (by kernel_rfl) (by kernel_rfl) (fun g h => by cases h) (fun q hq v W W' c h hg hc => ?_) ?_
          · cases c with
            | some g => obtain ⟨_, _, i, j, u, hd, _⟩ := hc g rfl; simp at hd
            | none => exact callF_kept h hg
          iterate 2 (refine calm_quiet (v := ?_) (by rfl) (by rfl) (fun W hW hD => ?_) ?_; rotate_left; (· (obtain ⟨⟨z0, z1, z2, z3⟩, y0, y1, y2, y3⟩ := HQ.out W hW; clear hD hW; go_simp; try with_reducible rfl)); simp only [Act.put, List.setIfInBounds_toArray, List.set_cons_zero, List.set_cons_succ, Nat.reduceAdd, Nat.zero_add])
          refine calm_makes (by rfl) (by rfl) (fun W' hW hD Kc hK => ?_) (fun v210 => ?_)
          · have h := HLs.out W' hW
            refine wp_of_call (f := 20) (args := #[.string (bs R), pageV (u : Int) (.slice ya xn yc) S (.slice qa pn qc)]) ?_ ((HCk.out W' (show (RowsN noteK (.slice ya xn yc) A) _ from h.get (by simp)) (show (StrsN (.slice qa pn qc) QL) _ from h.get (by simp)) h.rounds).mono ?_)
            · clear hD hW hK h
              go_simp
            · rintro e w5 ⟨rfl, hb5⟩
              exact ⟨_, rfl, hK _ _ (made_plain (by exact ((callF_c 2 (by decide) (by decide)).2 rfl : CallF W.heap.size 7 9 2 false (pageHF u A S PL) (pageHF u A S QL) 2 (.bool false) w5)) hb5 rfl)⟩
          simp only [Act.put, List.setIfInBounds_toArray, List.set_cons_zero, List.set_cons_succ, Nat.reduceAdd, Nat.zero_add]
          iterate 1 (refine calm_quiet (v := ?_) (by rfl) (by rfl) (fun W hW hD => ?_) ?_; rotate_left; (· (clear hD hW; go_simp; try with_reducible rfl)); simp only [Act.put, List.setIfInBounds_toArray, List.set_cons_zero, List.set_cons_succ, Nat.reduceAdd, Nat.zero_add])
          refine calm_quiet (v := .bool true) (by rfl) (by rfl) (fun W' hW hD => ?_) ?_
          · obtain rfl : v210 = .bool false := (callF_c (ka := 7) (kb := 9) 2 (B := W.heap.size) (c := false) (p := pageHF u A S PL) (q := pageHF u A S QL) (W := W') (v := v210) (by decide) (by decide)).1 (hD [] 2 (by kernel_rfl) (by kernel_rfl) (by kernel_rfl))
            clear hD hW
            go_simp
          simp only [Act.put, List.setIfInBounds_toArray, List.set_cons_zero, List.set_cons_succ, Nat.reduceAdd, Nat.zero_add]
          iterate 1 (refine calm_quiet (v := ?_) (by rfl) (by rfl) (fun W hW hD => ?_) ?_; rotate_left; (· (clear hD hW; go_simp; try with_reducible rfl)); simp only [Act.put, List.setIfInBounds_toArray, List.set_cons_zero, List.set_cons_succ, Nat.reduceAdd, Nat.zero_add])
          iterate 5 (refine calm_skip (by rfl) (by rfl) ?_; simp only [Act.put, List.setIfInBounds_toArray, List.set_cons_zero, List.set_cons_succ, Nat.reduceAdd, Nat.zero_add])
          iterate 2 (refine calm_quiet (v := ?_) (by rfl) (by rfl) (fun W hW hD => ?_) ?_; rotate_left; (· (clear hD hW; go_simp; try with_reducible rfl)); simp only [Act.put, List.setIfInBounds_toArray, List.set_cons_zero, List.set_cons_succ, Nat.reduceAdd, Nat.zero_add])
          refine calm_nil fun W' hW hF => ?_
          have HBf := Lib.hid (HB10.out.trans ((HLs.out W' hW).below.mono HB10.out.size))
          clear hF hW HLs HL13 HQ
          go_wp2
          go_ret
          exact ⟨rfl, HBf.out⟩
        · have HM : Hid (meetB (pageHF u A S PL) (pageHF u A S QL) = true) := HAll.out.2.2.2.2.2.2.1 hpq hcc
          clear hlT hpq hal hcc
          have HLs := Lib.hid (fun W (hW : w10.grownBy W none) => HL12.out.step (grown_below hW))
          go_wp2
          refine wp_region_calm ⟨[], fun _ _ _ => True, fun _ => [], 99, none, 1000⟩ (by kernel_rfl) (by kernel_rfl) (by kernel_rfl) (fun g h => by cases h) (fun q hq v W W' c h hg hc => h) ?_
          iterate 6 (refine calm_quiet (v := ?_) (by rfl) (by rfl) (fun W hW hD => ?_) ?_; rotate_left; (· (clear hD hW; go_simp; try with_reducible rfl)); simp only [Act.put, List.setIfInBounds_toArray, List.set_cons_zero, List.set_cons_succ, Nat.reduceAdd, Nat.zero_add])
          iterate 6 (refine calm_skip (by rfl) (by rfl) ?_; simp only [Act.put, List.setIfInBounds_toArray, List.set_cons_zero, List.set_cons_succ, Nat.reduceAdd, Nat.zero_add])
          iterate 1 (refine calm_quiet (v := ?_) (by rfl) (by rfl) (fun W hW hD => ?_) ?_; rotate_left; (· (clear hD hW; go_simp; try with_reducible rfl)); simp only [Act.put, List.setIfInBounds_toArray, List.set_cons_zero, List.set_cons_succ, Nat.reduceAdd, Nat.zero_add])
          refine calm_nil fun W hW hF => ?_
          have HL13 := Lib.hid (HLs.out W hW)
          clear hF hW HLs HL12
          have HLs := Lib.hid (fun W' (hW : W.grownBy W' none) => HL13.out.step (grown_below hW))
          have HQ : Hid (∀ W', W.grownBy W' none → (W'.cell? ⟨w7.heap.size, 0, none⟩ = some (.int .i64 (u : Int)) ∧ W'.cell? ⟨w7.heap.size, 1, none⟩ = some (.slice ya xn yc) ∧ W'.cell? ⟨w7.heap.size, 2, none⟩ = some (.string (bs S)) ∧ W'.cell? ⟨w7.heap.size, 3, none⟩ = some (.slice qa pn qc)) ∧ (W'.cell? ⟨w6.heap.size, 0, none⟩ = some (.int .i64 (u : Int)) ∧ W'.cell? ⟨w6.heap.size, 1, none⟩ = some (.slice xa xn xc) ∧ W'.cell? ⟨w6.heap.size, 2, none⟩ = some (.string (bs S)) ∧ W'.cell? ⟨w6.heap.size, 3, none⟩ = some (.slice pa pn pc))) := fun W' hW => by
            have h := HLs.out W' hW
            have hq := (show (BoxN w7.heap.size 39 #[.int .i64 (u : Int), .slice ya xn yc, .string (bs S), .slice qa pn qc]) _ from h.get (by simp))
            have hp := (show (BoxN w6.heap.size 39 #[.int .i64 (u : Int), .slice xa xn xc, .string (bs S), .slice pa pn pc]) _ from h.get (by simp))
            exact ⟨⟨BoxN.cell hq 0 _ rfl, BoxN.cell hq 1 _ rfl, BoxN.cell hq 2 _ rfl, BoxN.cell hq 3 _ rfl⟩, ⟨BoxN.cell hp 0 _ rfl, BoxN.cell hp 1 _ rfl, BoxN.cell hp 2 _ rfl, BoxN.cell hp 3 _ rfl⟩⟩
          go_wp2
          refine wp_region_calm ⟨[2, 7, 9, 10], CallF W.heap.size 7 9 2 true (pageHF u A S PL) (pageHF u A S QL), fun _ => [], 99, none, 1000⟩ (by kernel_rfl) (by kernel_rfl) (by kernel_rfl) (fun g h => by cases h) (fun q hq v W W' c h hg hc => ?_) ?_
          · cases c with
            | some g => obtain ⟨_, _, i, j, u, hd, _⟩ := hc g rfl; simp at hd
            | none => exact callF_kept h hg
          iterate 2 (refine calm_quiet (v := ?_) (by rfl) (by rfl) (fun W hW hD => ?_) ?_; rotate_left; (· (obtain ⟨⟨z0, z1, z2, z3⟩, y0, y1, y2, y3⟩ := HQ.out W hW; clear hD hW; go_simp; try with_reducible rfl)); simp only [Act.put, List.setIfInBounds_toArray, List.set_cons_zero, List.set_cons_succ, Nat.reduceAdd, Nat.zero_add])
          refine calm_makes (by rfl) (by rfl) (fun W' hW hD Kc hK => ?_) (fun v210 => ?_)
          · have h := HLs.out W' hW
            refine wp_of_call (f := 20) (args := #[.string (bs R), pageV (u : Int) (.slice ya xn yc) S (.slice qa pn qc)]) ?_ ((HCk.out W' (show (RowsN noteK (.slice ya xn yc) A) _ from h.get (by simp)) (show (StrsN (.slice qa pn qc) QL) _ from h.get (by simp)) h.rounds).mono ?_)
            · clear hD hW hK h
              go_simp
            · rintro e w5 ⟨rfl, hb5⟩
              exact ⟨_, rfl, hK _ _ (made_plain (by exact ((callF_c 2 (by decide) (by decide)).2 rfl : CallF W.heap.size 7 9 2 true (pageHF u A S PL) (pageHF u A S QL) 2 (.bool true) w5)) hb5 rfl)⟩
          simp only [Act.put, List.setIfInBounds_toArray, List.set_cons_zero, List.set_cons_succ, Nat.reduceAdd, Nat.zero_add]
          iterate 1 (refine calm_quiet (v := ?_) (by rfl) (by rfl) (fun W hW hD => ?_) ?_; rotate_left; (· (clear hD hW; go_simp; try with_reducible rfl)); simp only [Act.put, List.setIfInBounds_toArray, List.set_cons_zero, List.set_cons_succ, Nat.reduceAdd, Nat.zero_add])
          refine calm_quiet (v := .bool false) (by rfl) (by rfl) (fun W' hW hD => ?_) ?_
          · obtain rfl : v210 = .bool true := (callF_c (ka := 7) (kb := 9) 2 (B := W.heap.size) (c := true) (p := pageHF u A S PL) (q := pageHF u A S QL) (W := W') (v := v210) (by decide) (by decide)).1 (hD [] 2 (by kernel_rfl) (by kernel_rfl) (by kernel_rfl))
            clear hD hW
            go_simp
          simp only [Act.put, List.setIfInBounds_toArray, List.set_cons_zero, List.set_cons_succ, Nat.reduceAdd, Nat.zero_add]
          iterate 1 (refine calm_quiet (v := ?_) (by rfl) (by rfl) (fun W hW hD => ?_) ?_; rotate_left; (· (clear hD hW; go_simp; try with_reducible rfl)); simp only [Act.put, List.setIfInBounds_toArray, List.set_cons_zero, List.set_cons_succ, Nat.reduceAdd, Nat.zero_add])
          iterate 1 (refine calm_quiet (v := ?_) (by rfl) (by rfl) (fun W hW hD => ?_) ?_; rotate_left; (· (obtain ⟨⟨z0, z1, z2, z3⟩, y0, y1, y2, y3⟩ := HQ.out W hW; clear hD hW; go_simp; try with_reducible rfl)); simp only [Act.put, List.setIfInBounds_toArray, List.set_cons_zero, List.set_cons_succ, Nat.reduceAdd, Nat.zero_add])
          refine calm_makes (by rfl) (by rfl) (fun W' hW hD Kc hK => ?_) (fun v215 => ?_)
          · have h := HLs.out W' hW
            have hws := hW.size
            refine wp_of_call (f := 24) (args := #[pageV (u : Int) (.slice xa xn xc) S (.slice pa pn pc)]) ?_ ((refPageH_any u (.slice xa xn xc) A S (.slice pa pn pc) PL W' (show (RowsN noteK (.slice xa xn xc) A) _ from h.get (by simp)) (by have := HAl.out; rw [HXn.out]; omega) (fun x hx => (noteB_z ((notesB_ok HnA.out).1 x hx)).1) (by rw [HSl.out]; omega) (show (StrsN (.slice pa pn pc) PL) _ from h.get (by simp)) (fun x hx => by rw [HAll.out.2.1 x hx]; omega) (by rw [show PL.length = pn from HPn.out]; have := HAll.out.2.2.2.2.2.2.2; omega) hu9 h.rounds).mono ?_)
            · clear hD hW hK h
              go_simp
            · rintro e w5 ⟨rv, rfl, ho, hb5⟩
              exact ⟨_, rfl, hK _ _ (made_below (by exact ((callF_a 7).2 (ho.mono hws) : CallF W.heap.size 7 9 2 true (pageHF u A S PL) (pageHF u A S QL) 7 rv w5)) hb5 (fun g hg => (World.ownsRow.lt ho g hg)))⟩
          simp only [Act.put, List.setIfInBounds_toArray, List.set_cons_zero, List.set_cons_succ, Nat.reduceAdd, Nat.zero_add]
          iterate 1 (refine calm_quiet (v := ?_) (by rfl) (by rfl) (fun W hW hD => ?_) ?_; rotate_left; (· (obtain ⟨⟨z0, z1, z2, z3⟩, y0, y1, y2, y3⟩ := HQ.out W hW; clear hD hW; go_simp; try with_reducible rfl)); simp only [Act.put, List.setIfInBounds_toArray, List.set_cons_zero, List.set_cons_succ, Nat.reduceAdd, Nat.zero_add])
          refine calm_makes (by rfl) (by rfl) (fun W' hW hD Kc hK => ?_) (fun v217 => ?_)
          · have h := HLs.out W' hW
            have hws := hW.size
            refine wp_of_call (f := 24) (args := #[pageV (u : Int) (.slice ya xn yc) S (.slice qa pn qc)]) ?_ ((refPageH_any u (.slice ya xn yc) A S (.slice qa pn qc) QL W' (show (RowsN noteK (.slice ya xn yc) A) _ from h.get (by simp)) (by have := HAl.out; rw [HXn.out]; omega) (fun x hx => (noteB_z ((notesB_ok HnA.out).1 x hx)).1) (by rw [HSl.out]; omega) (show (StrsN (.slice qa pn qc) QL) _ from h.get (by simp)) (fun x hx => by rw [HAll.out.2.2.1 x hx]; omega) (by rw [show QL.length = pn from HAll.out.1.symm]; have := HAll.out.2.2.2.2.2.2.2; omega) hu9 h.rounds).mono ?_)
            · clear hD hW hK h
              go_simp
            · rintro e w5 ⟨rv, rfl, ho, hb5⟩
              exact ⟨_, rfl, hK _ _ (made_below (by exact ((callF_b 9 (by decide)).2 (ho.mono hws) : CallF W.heap.size 7 9 2 true (pageHF u A S PL) (pageHF u A S QL) 9 rv w5)) hb5 (fun g hg => (World.ownsRow.lt ho g hg)))⟩
          simp only [Act.put, List.setIfInBounds_toArray, List.set_cons_zero, List.set_cons_succ, Nat.reduceAdd, Nat.zero_add]
          refine calm_makes (by rfl) (by rfl) (fun W' hW hD Kc hK => ?_) (fun v218 => ?_)
          · have h13 := (callF_a (kb := 9) (kc := 2) 7 (B := W.heap.size) (c := true) (p := pageHF u A S PL) (q := pageHF u A S QL) (W := W') (v := v215)).1 (hD [] 7 (by kernel_rfl) (by kernel_rfl) (by kernel_rfl))
            have h15 := (callF_b (ka := 7) (kc := 2) 9 (B := W.heap.size) (c := true) (p := pageHF u A S PL) (q := pageHF u A S QL) (W := W') (v := v217) (by decide)).1 (hD [] 9 (by kernel_rfl) (by kernel_rfl) (by kernel_rfl))
            have hf1 := (pageHF_few (u := u) (s := S) (ps := PL) HnA.out (by rw [HSl.out]; omega) (fun x hx => by rw [HAll.out.2.1 x hx]; omega) (by rw [show PL.length = pn from HPn.out]; exact HAll.out.2.2.2.2.2.2.2))
            have hf2 := (pageHF_few (u := u) (s := S) (ps := QL) HnA.out (by rw [HSl.out]; omega) (fun x hx => by rw [HAll.out.2.2.1 x hx]; omega) (by rw [show QL.length = pn from HAll.out.1.symm]; exact HAll.out.2.2.2.2.2.2.2))
            refine wp_of_call (f := 14) (args := #[v215, v217]) ?_ ((collided_any v215 v217 (pageHF u A S PL) (pageHF u A S QL) W' h13.strs h15.strs hf1.1 hf2.1 hf2.2).mono ?_)
            · clear hD hW hK h13 h15 hf1 hf2
              go_simp
            · rintro e w5 ⟨rfl, hb5⟩
              exact ⟨_, rfl, hK _ _ (made_plain (by exact ((callF_d 10 (by decide) (by decide) (by decide)).2 (by rw [HM.out]) : CallF W.heap.size 7 9 2 true (pageHF u A S PL) (pageHF u A S QL) 10 (.bool (meetB (pageHF u A S PL) (pageHF u A S QL))) w5)) hb5 rfl)⟩
          simp only [Act.put, List.setIfInBounds_toArray, List.set_cons_zero, List.set_cons_succ, Nat.reduceAdd, Nat.zero_add]
          refine calm_quiet (v := .bool true) (by rfl) (by rfl) (fun W' hW hD => ?_) ?_
          · obtain rfl : v218 = .bool true := (callF_d (ka := 7) (kb := 9) (kc := 2) 10 (B := W.heap.size) (c := true) (p := pageHF u A S PL) (q := pageHF u A S QL) (W := W') (v := v218) (by decide) (by decide) (by decide)).1 (hD [] 10 (by kernel_rfl) (by kernel_rfl) (by kernel_rfl))
            clear hD hW
            go_simp
          simp only [Act.put, List.setIfInBounds_toArray, List.set_cons_zero, List.set_cons_succ, Nat.reduceAdd, Nat.zero_add]
          iterate 1 (refine calm_quiet (v := ?_) (by rfl) (by rfl) (fun W hW hD => ?_) ?_; rotate_left; (· (clear hD hW; go_simp; try with_reducible rfl)); simp only [Act.put, List.setIfInBounds_toArray, List.set_cons_zero, List.set_cons_succ, Nat.reduceAdd, Nat.zero_add])
          refine calm_nil fun W' hW hF => ?_
          have HBf := Lib.hid (HB10.out.trans ((HLs.out W' hW).below.mono HB10.out.size))
          clear hF hW HLs HL13 HQ
          go_wp2
          go_ret
          exact ⟨rfl, HBf.out⟩
end Go.Proofs.YteicimmdcdjagaaGreatDoor
