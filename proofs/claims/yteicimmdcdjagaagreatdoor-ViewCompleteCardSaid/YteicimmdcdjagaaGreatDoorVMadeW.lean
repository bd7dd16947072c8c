import Derived.Test.YteicimmdcdjagaaGreatDoorVRAdd
import Derived.Test.YteicimmdcdjagaaGreatDoorVOne
import Derived.Test.YteicimmdcdjagaaGreatDoorVSane
set_option linter.unusedVariables false
set_option linter.unusedSimpArgs false

/- The reference's Made: a dossier that integers determine. -/
set_option linter.unusedVariables false
set_option linter.unusedSimpArgs false
namespace Go.Proofs.YteicimmdcdjagaaGreatDoor
open Go.RowKit Go.Shelf

/-- A slice of arrays of four ints. -/
def FourAt (B : Nat) (w : World) (v : Value) (n : Nat) (f : Nat → Nat → Int) : Prop :=
  (∃ (a : Option Addr) (c : Nat), v = .slice a n c ∧ n ≤ c ∧ c ≤ maxLen ∧ (0 < n → ∃ b off, a = some ⟨b, off, none⟩ ∧ b < B ∧ ∀ i k, i < n → k < 4 → w.cell? ⟨b, off + i * 4 + k, none⟩ = some (.int .i64 (f i k)))) ∧
    ∀ i k, i < n → k < 4 → -9223372036854775808 ≤ f i k ∧ f i k ≤ 9223372036854775807
theorem FourAt.below {B B' : Nat} {w w' : World} {v : Value} {n : Nat} {f : Nat → Nat → Int} (h : FourAt B w v n f) (hb : Below B' w w') (hB : B ≤ B') : FourAt B w' v n f := by
  obtain ⟨⟨a, c, rfl, h1, h2, h3⟩, h4⟩ := h
  refine ⟨⟨a, c, rfl, h1, h2, fun hp => ?_⟩, h4⟩
  obtain ⟨b, off, rfl, hlt, hc⟩ := h3 hp
  exact ⟨b, off, rfl, hlt, fun i k hi hk => (hb.cell (p := ⟨b, off + i * 4 + k, none⟩) (Nat.lt_of_lt_of_le hlt hB)).trans (hc i k hi hk)⟩
theorem FourAt.mono {B B' : Nat} {w : World} {v : Value} {n : Nat} {f : Nat → Nat → Int} (h : FourAt B w v n f) (hB : B ≤ B') : FourAt B' w v n f := by
  obtain ⟨⟨a, c, rfl, h1, h2, h3⟩, h4⟩ := h
  refine ⟨⟨a, c, rfl, h1, h2, fun hp => ?_⟩, h4⟩
  obtain ⟨b, off, rfl, hlt, hc⟩ := h3 hp
  exact ⟨b, off, rfl, Nat.lt_of_lt_of_le hlt hB, hc⟩
theorem FourAt.later {w w' : World} {v : Value} {n : Nat} {f : Nat → Nat → Int} (h : FourAt w.heap.size w v n f) (hb : Below w.heap.size w w') : FourAt w'.heap.size w' v n f := (h.below hb (Nat.le_refl _)).mono hb.size
/-- Between two rounds of Made. -/
def MadeR (w : World) (G : Nat) (K : List UInt8) (l : List VNote) (nv : Value) (W : World) : Prop :=
  DosN G K nv W ∧ OwnK noteK (G + 1) W nv l ∧ BoxN w.heap.size 26 #[.string (⟨#[]⟩ : ByteArray), .slice none 0 0] W ∧ Below w.heap.size w W
theorem addN_cases (d : VDos) (n : VNote) : addN d n = (⟨d.key, insN n d.notes⟩, 0) ∨ addN d n = (⟨[], []⟩, 400) := by
  unfold addN
  split
  · exact .inl rfl
  · exact .inr rfl
set_option maxRecDepth 100000 in
set_option maxHeartbeats 8000000 in
theorem made_any (z : Int) (xv : Value) (N : Nat) (f : Nat → Nat → Int) (w : World) (hz : -9223372036854775808 ≤ z ∧ z ≤ 9223372036854775807) (hX : FourAt w.heap.size w xv N f) :
    Calls Tryz.prog 10 #[.int .i64 z, xv] w fun e w' => ∃ nv, e = .returned (dosV (keyB z) nv) ∧ OwnK noteK w.heap.size w' nv (madeD (keyB z) N f).notes ∧ Below w.heap.size w w' := by
  have HK := Lib.hid (fun W => key_any z W hz.1 hz.2)
  have hkl := keyB_length z
  obtain ⟨K, hK⟩ : ∃ K, keyB z = K := ⟨_, rfl⟩
  have HKe := Lib.hid hK
  rw [hK] at HK hkl
  have HMo := Lib.hid (fun j (hj : j ≤ 12) => madeN_ok hkl f j hj)
  obtain ⟨⟨xa0, xc0, rfl, hxc1, hxc2, hxc⟩, hbd⟩ := hX
  unfold maxLen at hxc2
  have HX := Lib.hid hxc
  have HBd := Lib.hid hbd
  have HR0 := Lib.hid (box_new w 26 #[.string (⟨#[]⟩ : ByteArray), .slice none 0 0])
  have HB0 : Hid (Below w.heap.size w (w.alloc (.cells #[.string (⟨#[]⟩ : ByteArray), .slice none 0 0] 26))) := (Below.refl _ _).alloc (Nat.le_refl _) _
  clear hz hkl hK hxc hbd
  go_enter Tryz.func10, Tryz.ntmps10
  go_wp2_with fail
  refine (HK.out _).mono ?_
  rintro e w1 ⟨rfl, hb⟩
  have hR1 := BoxN.below HR0.out hb HR0.out.lt
  have hB1 := HB0.out.trans (hb.mono HB0.out.size)
  obtain ⟨G, hG⟩ : ∃ G, G = w1.heap.size := ⟨_, rfl⟩
  have hGw : w.heap.size < G := by rw [hG]; exact hR1.lt
  have HM0 : Hid (MadeR w G K (madeN K f 0).notes (.slice none 0 0) (w1.alloc (.cells #[.string (bs K), .slice none 0 0] 26))) :=
    ⟨by show BoxN _ _ _ _; rw [hG]; exact box_new w1 _ _, OwnK.nil _ _, hR1.alloc _, hB1.alloc hB1.size _⟩
  clear hR1 hB1 hb HK HR0 HB0
  go_wp2
  rw [← hG]
  generalize (w1.alloc (.cells #[.string (bs K), .slice none 0 0] 26)) = W0 at *
  clear hG
  go_loopw [6] (fun i wr => ∃ (k : Nat) (nv : Value), k ≤ N ∧ k ≤ 12 ∧ i = .int .i64 k ∧ (∃ ra n rc, nv = .slice ra n rc) ∧ Hid (MadeR w G K (madeN K f k).notes nv wr)) (fun i _ => N - (intOf i).toNat)
  case atStart => exact ⟨0, _, Nat.zero_le _, Nat.zero_le _, rfl, ⟨_, _, _, rfl⟩, HM0⟩
  case round =>
    clear HM0
    obtain ⟨k, nv, hkN, hk12, rfl, ⟨ra, n, rc, rfl⟩, HR⟩ := hrel
    by_cases h1 : k < N
    · have d1 : decide ((k : Int) < (N : Int)) = true := by simp; omega
      by_cases h2 : k < 12
      · have d2 : decide ((k : Int) < 12) = true := by simp; omega
        have jj : (k : Int) < (N : Int) := by omega
        have j0 : 0 ≤ (k : Int) := by omega
        obtain ⟨b, off, hxa, hb, hc⟩ := HX.out (by omega)
        subst hxa
        have HC := Lib.hid (fun (W : World) (hW : Below w.heap.size w W) (q : Nat) (hq : q < 4) => (hW.cell (p := ⟨b, off + k * 4 + q, none⟩) hb).trans (hc k q h1 hq))
        have HOne := Lib.hid (fun W => one_any (f k) W (fun q hq => HBd.out k q h1 hq))
        obtain ⟨y, hy⟩ : ∃ y, y = oneZ (f k) := ⟨_, rfl⟩
        have HY := Lib.hid hy
        have HDr : Hid (DosN G K (.slice ra n rc) wr) := HR.out.1
        have HO : Hid (OwnK noteK (G + 1) wr (.slice ra n rc) (madeN K f k).notes) := HR.out.2.1
        have HRr := Lib.hid HR.out.2.2.1
        have HBr := Lib.hid HR.out.2.2.2
        have HQ : Hid (∀ W, wr.grownBy W none → W.cell? ⟨G, 0, none⟩ = some (.string (bs K)) ∧ W.cell? ⟨G, 1, none⟩ = some (.slice ra n rc) ∧ W.cell? ⟨b, off + k * 4, none⟩ = some (.int .i64 (f k 0)) ∧ W.cell? ⟨b, off + k * 4 + 1, none⟩ = some (.int .i64 (f k 1)) ∧ W.cell? ⟨b, off + k * 4 + 2, none⟩ = some (.int .i64 (f k 2)) ∧ W.cell? ⟨b, off + k * 4 + 3, none⟩ = some (.int .i64 (f k 3))) := fun W hW => by
          have hd := BoxN.grown HDr.out hW (by simp)
          have hbw := HBr.out.trans ((grown_below hW).mono HBr.out.size)
          have c0 := HC.out W hbw 0 (by omega)
          rw [Nat.add_zero] at c0
          exact ⟨DosN.c0 hd, DosN.c1 hd, c0, HC.out W hbw 1 (by omega), HC.out W hbw 2 (by omega), HC.out W hbw 3 (by omega)⟩
        obtain ⟨m1, m2, m3, _⟩ := HMo.out k hk12
        have hln : n = (madeN K f k).notes.length := (HR.out.2.1.rows noteOk).len.1
        have HN : Hid ((madeN K f k).notes.length = n) := hln.symm
        have hn12 : n ≤ 12 := by omega
        have hmk : madeN K f k = ⟨K, (madeN K f k).notes⟩ := by
          cases hm : madeN K f k
          rw [hm] at m2
          simp only at m2
          rw [m2]
        have hstep : madeN K f (k + 1) = stepD (madeN K f k) y := by rw [hy]; rfl
        rcases addN_cases (madeN K f k) y with hadd | hadd
        · have HNx : Hid ((madeN K f (k + 1)).notes = insN y (madeN K f k).notes) := by show _ = _; rw [hstep]; unfold stepD; rw [hadd]; rfl
          have HAdd : Hid (addN ⟨K, (madeN K f k).notes⟩ y = (⟨K, insN y (madeN K f k).notes⟩, 0)) := by show _ = _; rw [← hmk, hadd, m2]
          clear hadd hstep hmk m1 m2 m3 hy hc hln
          go_wp2
          refine wp_region_calm_late 11 9 ⟨[5, 6, 10], fun q v W => if q = 5 then v = noteV y else if q = 6 then ∃ nv', v = .tuple #[dosV K nv', .int .i64 0] ∧ OwnK noteK wr.heap.size W nv' (insN y (madeN K f k).notes) else ∃ b, v = .pointer (some ⟨b, 0, none⟩) ∧ wr.heap.size ≤ b ∧ BoxN b 26 #[.string (⟨#[]⟩ : ByteArray), .slice none 0 0] W, fun _ => [], 99, none, 11⟩ (by kernel_rfl) (by kernel_rfl) (by kernel_rfl) (by kernel_rfl) (fun g h => by cases h) (fun q hk v W W' c h hg hc => ?_) ?_
          · cases c with
            | some g => obtain ⟨_, _, i, j, u, hd, _⟩ := hc g rfl; simp at hd
            | none =>
              by_cases h5 : q = 5
              · simp only [h5, if_true] at h ⊢; exact h
              · by_cases h6 : q = 6
                · simp only [h6] at h ⊢
                  obtain ⟨nv', h1, h2⟩ := h
                  exact ⟨nv', h1, h2.kept hg (fun g h => by cases h)⟩
                · simp only [h5, h6, if_false] at h ⊢
                  obtain ⟨b, h1, h2, h3⟩ := h
                  exact ⟨b, h1, h2, BoxN.grown h3 hg (by simp)⟩
          iterate 4 (refine calm_quiet (v := ?_) (by rfl) (by rfl) (fun W hW hD => ?_) ?_; rotate_left; (· (obtain ⟨z0, z1, y0, y1, y2, y3⟩ := HQ.out W hW; clear hD hW; go_simp; try with_reducible rfl)); simp only [Act.put, List.setIfInBounds_toArray, List.set_cons_zero, List.set_cons_succ, Nat.reduceAdd, Nat.zero_add])
          refine calm_quiet (v := .agg #[.int .i64 (f k 0), .int .i64 (f k 1), .int .i64 (f k 2), .int .i64 (f k 3)]) (by rfl) (by rfl) (fun W hW hD => ?_) ?_
          · obtain ⟨z0, z1, y0, y1, y2, y3⟩ := HQ.out W hW
            clear hD hW
            go_simp
          simp only [Act.put, List.setIfInBounds_toArray, List.set_cons_zero, List.set_cons_succ, Nat.reduceAdd, Nat.zero_add]
          refine calm_makes (by rfl) (by rfl) (fun W hW hD Kc hK => ?_) (fun v28 => ?_)
          · refine wp_of_call (f := 31) (args := #[fourV (f k)]) ?_ ((HOne.out W).mono ?_)
            · clear hD hW hK
              go_simp
            · rintro e w5 ⟨rfl, hb5⟩
              exact ⟨_, rfl, hK _ _ (made_plain (by show _ = _; rw [HY.out]; rfl) hb5 rfl)⟩
          simp only [Act.put, List.setIfInBounds_toArray, List.set_cons_zero, List.set_cons_succ, Nat.reduceAdd, Nat.zero_add]
          refine calm_makes (by rfl) (by rfl) (fun W hW hD Kc hK => ?_) (fun v29 => ?_)
          · obtain rfl : v28 = noteV y := hD [] 5 (by kernel_rfl) (by kernel_rfl) (by kernel_rfl)
            have hz := hW.size
            refine wp_of_call (f := 36) (args := #[dosV K (.slice ra n rc), noteV y]) ?_ ((refAdd_any K (.slice ra n rc) (madeN K f k).notes y W ((OwnK.kept HO.out hW (fun g h => by cases h)).rows noteOk) (by rw [HN.out]; omega)).mono ?_)
            · clear hD hW hK
              go_simp
            · rintro e w5 ⟨nv', rfl, ho, hb5⟩
              rw [HAdd.out] at ho ⊢
              simp only at ho ⊢
              obtain ⟨xa, xc, rfl, _, _⟩ := ho.shape
              exact ⟨_, rfl, hK _ _ (made_plain ⟨_, rfl, ho.mono hz⟩ hb5 rfl)⟩
          simp only [Act.put, List.setIfInBounds_toArray, List.set_cons_zero, List.set_cons_succ, Nat.reduceAdd, Nat.zero_add]
          iterate 1 (refine calm_quiet (v := ?_) (by rfl) (by rfl) (fun W hW hD => ?_) ?_; rotate_left; (· (clear hD hW; go_simp; try with_reducible rfl)); simp only [Act.put, List.setIfInBounds_toArray, List.set_cons_zero, List.set_cons_succ, Nat.reduceAdd, Nat.zero_add])
          refine calm_quiet (v := vtupAt v29 0) (by rfl) (by rfl) (fun W hW hD => ?_) ?_
          · obtain ⟨nv', rfl, _⟩ : ∃ nv', v29 = .tuple #[dosV K nv', .int .i64 0] ∧ OwnK noteK wr.heap.size W nv' (insN y (madeN K f k).notes) := hD [7] 6 (by kernel_rfl) (by kernel_rfl) (by kernel_rfl)
            clear hD hW
            go_simp
            try rfl
          simp only [Act.put, List.setIfInBounds_toArray, List.set_cons_zero, List.set_cons_succ, Nat.reduceAdd, Nat.zero_add]
          refine calm_quiet (v := vtupAt v29 1) (by rfl) (by rfl) (fun W hW hD => ?_) ?_
          · obtain ⟨nv', rfl, _⟩ : ∃ nv', v29 = .tuple #[dosV K nv', .int .i64 0] ∧ OwnK noteK wr.heap.size W nv' (insN y (madeN K f k).notes) := hD [7] 6 (by kernel_rfl) (by kernel_rfl) (by kernel_rfl)
            clear hD hW
            go_simp
            try rfl
          simp only [Act.put, List.setIfInBounds_toArray, List.set_cons_zero, List.set_cons_succ, Nat.reduceAdd, Nat.zero_add]
          refine calm_makes (by rfl) (by rfl) (fun W hW hD Kc hK => ?_) (fun v7 => ?_)
          · have hz := hW.size
            refine wp_of_run (v := .pointer (some ⟨W.heap.size, 0, none⟩)) (w' := W.alloc (.cells #[.string (⟨#[]⟩ : ByteArray), .slice none 0 0] 26)) ?_ (hK _ _ (made_plain ⟨_, rfl, hz, box_new W _ _⟩ ((Below.refl _ _).alloc (Nat.le_refl _) _) rfl))
            clear hD hW hK
            go_simp
          simp only [Act.put, List.setIfInBounds_toArray, List.set_cons_zero, List.set_cons_succ, Nat.reduceAdd, Nat.zero_add]
          refine calm_tail (by rfl) fun W hW hF => ?_
          obtain ⟨nv', rfl, hown⟩ : ∃ nv', v29 = .tuple #[dosV K nv', .int .i64 0] ∧ OwnK noteK wr.heap.size W nv' (insN y (madeN K f k).notes) := hF 6 (by kernel_rfl) (by kernel_rfl)
          obtain ⟨b, rfl, hbB, hbx⟩ : ∃ b, v7 = .pointer (some ⟨b, 0, none⟩) ∧ wr.heap.size ≤ b ∧ BoxN b 26 #[.string (⟨#[]⟩ : ByteArray), .slice none 0 0] W := hF 10 (by kernel_rfl) (by kernel_rfl)
          obtain ⟨xa, xc, hx, _, _⟩ := hown.shape
          subst hx
          generalize hxn : (insN y (madeN K f k).notes).length = xn at *
          clear hxn
          rw [show vtupAt (.tuple #[dosV K (.slice xa xn xc), .int .i64 0]) 0 = dosV K (.slice xa xn xc) from rfl, show vtupAt (.tuple #[dosV K (.slice xa xn xc), .int .i64 0]) 1 = .int .i64 0 from rfl]
          have z0 := BoxN.cell hbx 0 _ rfl
          have z1 := BoxN.cell hbx 1 _ rfl
          have zf := BoxN.frozen hbx
          have hgd := BoxN.grown HDr.out hW (by simp)
          have hrs := BoxN.grown HRr.out hW (by simp)
          have hor := OwnK.kept HO.out hW (fun g h => by cases h)
          have hbw := HBr.out.trans ((grown_below hW).mono HBr.out.size)
          have hGlt := HDr.out.lt
          have hWz := hW.size
          have HWs : Hid (BoxN b 26 #[.string (bs K), .slice xa xn xc] ((W.setCell ⟨b, 0, none⟩ (.string (bs K))).setCell ⟨b, 1, none⟩ (.slice xa xn xc)) ∧ OwnK noteK (G + 1) ((W.setCell ⟨b, 0, none⟩ (.string (bs K))).setCell ⟨b, 1, none⟩ (.slice xa xn xc)) (.slice xa xn xc) (insN y (madeN K f k).notes) ∧ OwnK noteK (G + 1) ((W.setCell ⟨b, 0, none⟩ (.string (bs K))).setCell ⟨b, 1, none⟩ (.slice xa xn xc)) (.slice ra n rc) (madeN K f k).notes ∧ DosN G K (.slice ra n rc) ((W.setCell ⟨b, 0, none⟩ (.string (bs K))).setCell ⟨b, 1, none⟩ (.slice xa xn xc)) ∧ BoxN w.heap.size 26 #[.string (⟨#[]⟩ : ByteArray), .slice none 0 0] ((W.setCell ⟨b, 0, none⟩ (.string (bs K))).setCell ⟨b, 1, none⟩ (.slice xa xn xc)) ∧ Below w.heap.size w ((W.setCell ⟨b, 0, none⟩ (.string (bs K))).setCell ⟨b, 1, none⟩ (.slice xa xn xc))) :=
            ⟨BoxN.set2 hbx _ _, ((hown.setBox hbx (by decide) 0 _).setBox (hbx.set 0 _) (by decide) 1 _).mono (by omega), (hor.setBox hbx (by decide) 0 _).setBox (hbx.set 0 _) (by decide) 1 _, BoxN.other (BoxN.other hgd (by omega)) (by omega), BoxN.other (BoxN.other hrs (by omega)) (by omega), (hbw.setCell (p := ⟨b, 0, none⟩) (by show _ ≤ b; omega) _).setCell (p := ⟨b, 1, none⟩) (by show _ ≤ b; omega) _⟩
          have hbG : b ≠ G := by omega
          clear hF hW hbx hgd hrs hor hbw hown HQ HO HDr HRr HBr
          go_wp2
          refine NoPanic.normal ?_
          clear z0 z1 zf
          generalize ((W.setCell ⟨b, 0, none⟩ (.string (bs K))).setCell ⟨b, 1, none⟩ (.slice xa xn xc)) = W9 at *
          obtain ⟨hx0, hx1, hx2, hx3, hx4, hx5⟩ := HWs.out
          have b0 := BoxN.cell hx0 0 _ rfl
          have b1 := BoxN.cell hx0 1 _ rfl
          have g0 := BoxN.cell hx3 0 _ rfl
          have g1 := BoxN.cell hx3 1 _ rfl
          have gf := BoxN.frozen hx3
          have HF9 : Hid (MadeR w G K (madeN K f (k + 1)).notes (.slice xa xn xc) ((W9.setCell ⟨G, 0, none⟩ (.string (bs K))).setCell ⟨G, 1, none⟩ (.slice xa xn xc))) := by
            show MadeR _ _ _ _ _ _
            rw [HNx.out]
            exact ⟨BoxN.set2 hx3 _ _, (hx1.setOther (by omega) 0 _).setOther (by omega) 1 _, BoxN.other (BoxN.other hx4 (by omega)) (by omega), (hx5.setCell (p := ⟨G, 0, none⟩) (by show _ ≤ G; omega) _).setCell (p := ⟨G, 1, none⟩) (by show _ ≤ G; omega) _⟩
          clear hx0 hx1 hx2 hx3 hx4 hx5 HWs HAdd HY HOne HNx
          go_wp2
          go_roundw
          case rel => exact ⟨k + 1, _, by omega, by omega, by go_num, ⟨_, _, _, rfl⟩, HF9⟩
          case measure => simp [intOf]; omega
        · have HNx : Hid ((madeN K f (k + 1)).notes = (madeN K f k).notes) := by show _ = _; rw [hstep]; unfold stepD; rw [hadd, if_neg (by decide)]
          have HAdd : Hid (addN ⟨K, (madeN K f k).notes⟩ y = (⟨[], []⟩, 400)) := by show _ = _; rw [← hmk, hadd]
          clear hadd hstep hmk m1 m2 m3 hy hc hln
          go_wp2
          refine wp_region_calm_late 11 9 ⟨[5, 6, 10], fun q v W => if q = 5 then v = noteV y else if q = 6 then ∃ nv', v = .tuple #[dosV ([] : List UInt8) nv', .int .i64 400] ∧ OwnK noteK wr.heap.size W nv' ([] : List VNote) else ∃ b, v = .pointer (some ⟨b, 0, none⟩) ∧ wr.heap.size ≤ b ∧ BoxN b 26 #[.string (⟨#[]⟩ : ByteArray), .slice none 0 0] W, fun _ => [], 99, none, 11⟩ (by kernel_rfl) (by kernel_rfl) (by kernel_rfl) (by kernel_rfl) (fun g h => by cases h) (fun q hk v W W' c h hg hc => ?_) ?_
          · cases c with
            | some g => obtain ⟨_, _, i, j, u, hd, _⟩ := hc g rfl; simp at hd
            | none =>
              by_cases h5 : q = 5
              · simp only [h5, if_true] at h ⊢; exact h
              · by_cases h6 : q = 6
                · simp only [h6] at h ⊢
                  obtain ⟨nv', h1, h2⟩ := h
                  exact ⟨nv', h1, h2.kept hg (fun g h => by cases h)⟩
                · simp only [h5, h6, if_false] at h ⊢
                  obtain ⟨b, h1, h2, h3⟩ := h
                  exact ⟨b, h1, h2, BoxN.grown h3 hg (by simp)⟩
          iterate 4 (refine calm_quiet (v := ?_) (by rfl) (by rfl) (fun W hW hD => ?_) ?_; rotate_left; (· (obtain ⟨z0, z1, y0, y1, y2, y3⟩ := HQ.out W hW; clear hD hW; go_simp; try with_reducible rfl)); simp only [Act.put, List.setIfInBounds_toArray, List.set_cons_zero, List.set_cons_succ, Nat.reduceAdd, Nat.zero_add])
          refine calm_quiet (v := .agg #[.int .i64 (f k 0), .int .i64 (f k 1), .int .i64 (f k 2), .int .i64 (f k 3)]) (by rfl) (by rfl) (fun W hW hD => ?_) ?_
          · obtain ⟨z0, z1, y0, y1, y2, y3⟩ := HQ.out W hW
            clear hD hW
            go_simp
          simp only [Act.put, List.setIfInBounds_toArray, List.set_cons_zero, List.set_cons_succ, Nat.reduceAdd, Nat.zero_add]
          refine calm_makes (by rfl) (by rfl) (fun W hW hD Kc hK => ?_) (fun v28 => ?_)
          · refine wp_of_call (f := 31) (args := #[fourV (f k)]) ?_ ((HOne.out W).mono ?_)
            · clear hD hW hK
              go_simp
            · rintro e w5 ⟨rfl, hb5⟩
              exact ⟨_, rfl, hK _ _ (made_plain (by show _ = _; rw [HY.out]; rfl) hb5 rfl)⟩
          simp only [Act.put, List.setIfInBounds_toArray, List.set_cons_zero, List.set_cons_succ, Nat.reduceAdd, Nat.zero_add]
          refine calm_makes (by rfl) (by rfl) (fun W hW hD Kc hK => ?_) (fun v29 => ?_)
          · obtain rfl : v28 = noteV y := hD [] 5 (by kernel_rfl) (by kernel_rfl) (by kernel_rfl)
            have hz := hW.size
            refine wp_of_call (f := 36) (args := #[dosV K (.slice ra n rc), noteV y]) ?_ ((refAdd_any K (.slice ra n rc) (madeN K f k).notes y W ((OwnK.kept HO.out hW (fun g h => by cases h)).rows noteOk) (by rw [HN.out]; omega)).mono ?_)
            · clear hD hW hK
              go_simp
            · rintro e w5 ⟨nv', rfl, ho, hb5⟩
              rw [HAdd.out] at ho ⊢
              simp only at ho ⊢
              obtain ⟨xa, xc, rfl, _, _⟩ := ho.shape
              exact ⟨_, rfl, hK _ _ (made_plain ⟨_, rfl, ho.mono hz⟩ hb5 rfl)⟩
          simp only [Act.put, List.setIfInBounds_toArray, List.set_cons_zero, List.set_cons_succ, Nat.reduceAdd, Nat.zero_add]
          iterate 1 (refine calm_quiet (v := ?_) (by rfl) (by rfl) (fun W hW hD => ?_) ?_; rotate_left; (· (clear hD hW; go_simp; try with_reducible rfl)); simp only [Act.put, List.setIfInBounds_toArray, List.set_cons_zero, List.set_cons_succ, Nat.reduceAdd, Nat.zero_add])
          refine calm_quiet (v := vtupAt v29 0) (by rfl) (by rfl) (fun W hW hD => ?_) ?_
          · obtain ⟨nv', rfl, _⟩ : ∃ nv', v29 = .tuple #[dosV ([] : List UInt8) nv', .int .i64 400] ∧ OwnK noteK wr.heap.size W nv' ([] : List VNote) := hD [7] 6 (by kernel_rfl) (by kernel_rfl) (by kernel_rfl)
            clear hD hW
            go_simp
            try rfl
          simp only [Act.put, List.setIfInBounds_toArray, List.set_cons_zero, List.set_cons_succ, Nat.reduceAdd, Nat.zero_add]
          refine calm_quiet (v := vtupAt v29 1) (by rfl) (by rfl) (fun W hW hD => ?_) ?_
          · obtain ⟨nv', rfl, _⟩ : ∃ nv', v29 = .tuple #[dosV ([] : List UInt8) nv', .int .i64 400] ∧ OwnK noteK wr.heap.size W nv' ([] : List VNote) := hD [7] 6 (by kernel_rfl) (by kernel_rfl) (by kernel_rfl)
            clear hD hW
            go_simp
            try rfl
          simp only [Act.put, List.setIfInBounds_toArray, List.set_cons_zero, List.set_cons_succ, Nat.reduceAdd, Nat.zero_add]
          refine calm_makes (by rfl) (by rfl) (fun W hW hD Kc hK => ?_) (fun v7 => ?_)
          · have hz := hW.size
            refine wp_of_run (v := .pointer (some ⟨W.heap.size, 0, none⟩)) (w' := W.alloc (.cells #[.string (⟨#[]⟩ : ByteArray), .slice none 0 0] 26)) ?_ (hK _ _ (made_plain ⟨_, rfl, hz, box_new W _ _⟩ ((Below.refl _ _).alloc (Nat.le_refl _) _) rfl))
            clear hD hW hK
            go_simp
          simp only [Act.put, List.setIfInBounds_toArray, List.set_cons_zero, List.set_cons_succ, Nat.reduceAdd, Nat.zero_add]
          refine calm_tail (by rfl) fun W hW hF => ?_
          obtain ⟨nv', rfl, hown⟩ : ∃ nv', v29 = .tuple #[dosV ([] : List UInt8) nv', .int .i64 400] ∧ OwnK noteK wr.heap.size W nv' ([] : List VNote) := hF 6 (by kernel_rfl) (by kernel_rfl)
          obtain ⟨b, rfl, hbB, hbx⟩ : ∃ b, v7 = .pointer (some ⟨b, 0, none⟩) ∧ wr.heap.size ≤ b ∧ BoxN b 26 #[.string (⟨#[]⟩ : ByteArray), .slice none 0 0] W := hF 10 (by kernel_rfl) (by kernel_rfl)
          obtain ⟨xa, xc, hx, _, _⟩ := hown.shape
          subst hx
          generalize hxn : ([] : List VNote).length = xn at *
          clear hxn
          rw [show vtupAt (.tuple #[dosV ([] : List UInt8) (.slice xa xn xc), .int .i64 400]) 0 = dosV ([] : List UInt8) (.slice xa xn xc) from rfl, show vtupAt (.tuple #[dosV ([] : List UInt8) (.slice xa xn xc), .int .i64 400]) 1 = .int .i64 400 from rfl]
          have z0 := BoxN.cell hbx 0 _ rfl
          have z1 := BoxN.cell hbx 1 _ rfl
          have zf := BoxN.frozen hbx
          have hgd := BoxN.grown HDr.out hW (by simp)
          have hrs := BoxN.grown HRr.out hW (by simp)
          have hor := OwnK.kept HO.out hW (fun g h => by cases h)
          have hbw := HBr.out.trans ((grown_below hW).mono HBr.out.size)
          have hGlt := HDr.out.lt
          have hWz := hW.size
          have HWs : Hid (BoxN b 26 #[.string (bs ([] : List UInt8)), .slice xa xn xc] ((W.setCell ⟨b, 0, none⟩ (.string (bs ([] : List UInt8)))).setCell ⟨b, 1, none⟩ (.slice xa xn xc)) ∧ OwnK noteK (G + 1) ((W.setCell ⟨b, 0, none⟩ (.string (bs ([] : List UInt8)))).setCell ⟨b, 1, none⟩ (.slice xa xn xc)) (.slice xa xn xc) ([] : List VNote) ∧ OwnK noteK (G + 1) ((W.setCell ⟨b, 0, none⟩ (.string (bs ([] : List UInt8)))).setCell ⟨b, 1, none⟩ (.slice xa xn xc)) (.slice ra n rc) (madeN K f k).notes ∧ DosN G K (.slice ra n rc) ((W.setCell ⟨b, 0, none⟩ (.string (bs ([] : List UInt8)))).setCell ⟨b, 1, none⟩ (.slice xa xn xc)) ∧ BoxN w.heap.size 26 #[.string (⟨#[]⟩ : ByteArray), .slice none 0 0] ((W.setCell ⟨b, 0, none⟩ (.string (bs ([] : List UInt8)))).setCell ⟨b, 1, none⟩ (.slice xa xn xc)) ∧ Below w.heap.size w ((W.setCell ⟨b, 0, none⟩ (.string (bs ([] : List UInt8)))).setCell ⟨b, 1, none⟩ (.slice xa xn xc))) :=
            ⟨BoxN.set2 hbx _ _, ((hown.setBox hbx (by decide) 0 _).setBox (hbx.set 0 _) (by decide) 1 _).mono (by omega), (hor.setBox hbx (by decide) 0 _).setBox (hbx.set 0 _) (by decide) 1 _, BoxN.other (BoxN.other hgd (by omega)) (by omega), BoxN.other (BoxN.other hrs (by omega)) (by omega), (hbw.setCell (p := ⟨b, 0, none⟩) (by show _ ≤ b; omega) _).setCell (p := ⟨b, 1, none⟩) (by show _ ≤ b; omega) _⟩
          have hbG : b ≠ G := by omega
          clear hF hW hbx hgd hrs hor hbw hown HQ HO HDr HRr HBr
          go_wp2
          refine NoPanic.normal ?_
          clear z0 z1 zf
          generalize ((W.setCell ⟨b, 0, none⟩ (.string (bs ([] : List UInt8)))).setCell ⟨b, 1, none⟩ (.slice xa xn xc)) = W9 at *
          obtain ⟨hx0, hx1, hx2, hx3, hx4, hx5⟩ := HWs.out
          have HF9 : Hid (MadeR w G K (madeN K f (k + 1)).notes (.slice ra n rc) W9) := by
            show MadeR _ _ _ _ _ _
            rw [HNx.out]
            exact ⟨hx3, hx2, hx4, hx5⟩
          clear hx0 hx1 hx2 hx3 hx4 hx5 HWs HAdd HY HOne HNx
          go_wp2
          go_roundw
          case rel => exact ⟨k + 1, _, by omega, by omega, by go_num, ⟨_, _, _, rfl⟩, HF9⟩
          case measure => simp [intOf]; omega
      · obtain rfl : k = 12 := by omega
        have d2 : decide (((12 : Nat) : Int) < 12) = false := by simp
        obtain ⟨hx3, hx2, hx4, hx5⟩ := HR.out
        have g0 := BoxN.cell hx3 0 _ rfl
        have g1 := BoxN.cell hx3 1 _ rfl
        have z0 := BoxN.cell hx4 0 _ rfl
        have z1 := BoxN.cell hx4 1 _ rfl
        have zf := BoxN.frozen hx4
        have HZ := Lib.hid (BoxN.set2 hx4 (.string (bs K)) (.slice ra n rc))
        have HKf := Lib.hid ((hx2.setOther (g := w.heap.size) (by omega) 0 (.string (bs K))).setOther (g := w.heap.size) (by omega) 1 (.slice ra n rc))
        have HBf := Lib.hid ((hx5.setCell (p := ⟨w.heap.size, 0, none⟩) (Nat.le_refl _) (.string (bs K))).setCell (p := ⟨w.heap.size, 1, none⟩) (Nat.le_refl _) (.slice ra n rc))
        have HE : Hid (madeD K N f = madeN K f 12) := by show _ = _; unfold madeD; rw [show min N 12 = 12 from by omega]
        clear hx3 hx2 hx4 hx5 HR
        go_wp2
        have hE := HZ.out
        exact bodyPost_ret (v := dosV K (.slice ra n rc)) (by simp [results, Tryz.results10, go_sem, BoxN.cell hE 0 _ rfl, BoxN.cell hE 1 _ rfl]) rfl ⟨_, by rw [HKe.out], by rw [HKe.out, HE.out]; exact HKf.out.mono (by omega), HBf.out⟩
    · obtain rfl : k = N := by omega
      have d1 : decide ((k : Int) < (k : Int)) = false := by simp
      obtain ⟨hx3, hx2, hx4, hx5⟩ := HR.out
      have g0 := BoxN.cell hx3 0 _ rfl
      have g1 := BoxN.cell hx3 1 _ rfl
      have z0 := BoxN.cell hx4 0 _ rfl
      have z1 := BoxN.cell hx4 1 _ rfl
      have zf := BoxN.frozen hx4
      have HZ := Lib.hid (BoxN.set2 hx4 (.string (bs K)) (.slice ra n rc))
      have HKf := Lib.hid ((hx2.setOther (g := w.heap.size) (by omega) 0 (.string (bs K))).setOther (g := w.heap.size) (by omega) 1 (.slice ra n rc))
      have HBf := Lib.hid ((hx5.setCell (p := ⟨w.heap.size, 0, none⟩) (Nat.le_refl _) (.string (bs K))).setCell (p := ⟨w.heap.size, 1, none⟩) (Nat.le_refl _) (.slice ra n rc))
      have HE : Hid (madeD K k f = madeN K f k) := by show _ = _; unfold madeD; rw [show min k 12 = k from by omega]
      clear hx3 hx2 hx4 hx5 HR
      go_wp2
      have hE := HZ.out
      exact bodyPost_ret (v := dosV K (.slice ra n rc)) (by simp [results, Tryz.results10, go_sem, BoxN.cell hE 0 _ rfl, BoxN.cell hE 1 _ rfl]) rfl ⟨_, by rw [HKe.out], by rw [HKe.out, HE.out]; exact HKf.out.mono (by omega), HBf.out⟩
end Go.Proofs.YteicimmdcdjagaaGreatDoor
