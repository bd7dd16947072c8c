import Derived.Test.YteicimmdcdjagaaGreatDoorVPut
import Derived.Test.YteicimmdcdjagaaGreatDoorVSrch
import Derived.Test.YteicimmdcdjagaaGreatDoorVAdd
set_option linter.unusedVariables false
set_option linter.unusedSimpArgs false

/- view: Add. -/
set_option linter.unusedVariables false
set_option linter.unusedSimpArgs false
namespace Go.Proofs.YteicimmdcdjagaaGreatDoor
open Go.RowKit Go.Shelf

theorem ownK_block {α : Type} {K : SK α} {base : Nat} {W : World} {u : Value} {l : List α} {g : Nat} {cs : Array Value} {t : TypeId} {fr : Nat × Nat} (h : OwnK K base W u l) (hu : u.ownBlock = some g) (hb : W.heap[g]? = some (.cells cs t fr)) : t = K.ty := by
  rcases h.2 with ⟨rfl, _⟩ | ⟨g', cap, cur, rfl, _, hg, _⟩
  · cases hu
  · simp only [Value.ownBlock, Option.some.injEq] at hu
    subst hu
    rw [hg] at hb
    cases hb
    rfl
theorem OwnK.setBox {α : Type} {K : SK α} {base : Nat} {W : World} {v : Value} {l : List α} {g : Nat} {t : TypeId} {cs : Array Value} (h : OwnK K base W v l) (hb : BoxN g t cs W) (ht : t ≠ K.ty) (j : Nat) (u : Value) : OwnK K base (W.setCell ⟨g, j, none⟩ u) v l :=
  h.kept (grown_cell1 W g j u) fun g' hg' e => by
    cases hg'
    exact ht (ownK_block h e hb)
theorem wp2_gen {P : Program} {c : Code} {a : Act} {W : World} {Q : Exit → Act → World → Prop} (R : World → Prop) (h : R W) (k : ∀ W', R W' → c.wp P Q a W') : c.wp P Q a W := k W h
/-- What the steps of Add's region leave. -/
def VAddF (B : Nat) (l l2 : List VNote) (x : VNote) : Nat → Value → World → Prop := fun k v W =>
  if k = 4 then OwnK noteK B W v l
  else if k = 7 then ∃ b, v = .slice (some ⟨b, 0, none⟩) 1 1 ∧ BoxN b 48 (noteR x) W
  else if k = 8 then OwnK noteK B W v l2
  else ∃ g, v = .pointer (some ⟨g, 0, none⟩) ∧ B ≤ g ∧ BoxN g 26 #[.string (⟨#[]⟩ : ByteArray), .slice none 0 0] W
theorem vaddF_kept {B k : Nat} {l l2 : List VNote} {x : VNote} {v : Value} {W W' : World} {c : Option Nat} (h : VAddF B l l2 x k v W) (hg : W.grownBy W' c)
    (hc : ∀ g, c = some g → v.ownBlock ≠ some g ∧ ∃ u, u.ownBlock = some g ∧ OwnK noteK B W u l) : VAddF B l l2 x k v W' := by
  unfold VAddF at h ⊢
  by_cases h4 : k = 4
  · rw [if_pos h4] at h ⊢; exact h.kept hg fun g hh => (hc g hh).1
  rw [if_neg h4] at h ⊢
  by_cases h7 : k = 7
  · rw [if_pos h7] at h ⊢
    obtain ⟨b, rfl, hb⟩ := h
    exact ⟨b, rfl, BoxN.grown hb hg fun e => (hc b e).1 rfl⟩
  rw [if_neg h7] at h ⊢
  by_cases h8 : k = 8
  · rw [if_pos h8] at h ⊢; exact h.kept hg fun g hh => (hc g hh).1
  rw [if_neg h8] at h ⊢
  obtain ⟨g, rfl, hB, hb⟩ := h
  refine ⟨g, rfl, hB, BoxN.grown hb hg fun e => ?_⟩
  obtain ⟨_, u, hu, hF⟩ := hc g e
  exact absurd (ownK_block hF hu hb) (by decide)
set_option maxRecDepth 100000 in
set_option maxHeartbeats 8000000 in
theorem vAdd_any (key : List UInt8) (nv : Value) (l : List VNote) (x : VNote) (w : World) (h : RowsAt noteK w.heap.size w nv l) (hl : l.length ≤ 1000000) :
    Calls Tryz.prog 25 #[dosV key nv, noteV x] w fun e w' => ∃ nv', e = .returned (.tuple #[dosV (addN ⟨key, l⟩ x).1.key nv', .int .i64 (addN ⟨key, l⟩ x).2]) ∧ OwnK noteK w.heap.size w' nv' (addN ⟨key, l⟩ x).1.notes ∧ Below w.heap.size w w' := by
  obtain ⟨a, c, rfl, hlc, hcm⟩ := h.shape
  have hb0 : Below w.heap.size w (((w.alloc (.cells #[.string (bs key), .slice a l.length c] 26)).alloc (.cells (noteR x) 48)).alloc (.cells #[.string (⟨#[]⟩ : ByteArray), .slice none 0 0] 26)) := (((Below.refl _ _).alloc (Nat.le_refl _) _).alloc (by simp) _).alloc (by simp; omega) _
  have HV := Lib.hid (vValid_any key (.slice a l.length c) l _ (h.later hb0 (Nat.le_refl _)) hl)
  have HB0 := Lib.hid hb0
  have HL := Lib.hid h
  have HLl := Lib.hid hl
  have HDos : Hid (DosN w.heap.size key (.slice a l.length c) (((w.alloc (.cells #[.string (bs key), .slice a l.length c] 26)).alloc (.cells (noteR x) 48)).alloc (.cells #[.string (⟨#[]⟩ : ByteArray), .slice none 0 0] 26))) := ((box_new w _ _).alloc _).alloc _
  have HNo : Hid (NoteN (w.heap.size + 1) x (((w.alloc (.cells #[.string (bs key), .slice a l.length c] 26)).alloc (.cells (noteR x) 48)).alloc (.cells #[.string (⟨#[]⟩ : ByteArray), .slice none 0 0] 26))) := by
    have := box_new (w.alloc (.cells #[.string (bs key), .slice a l.length c] 26)) 48 (noteR x)
    rw [World.size_alloc] at this
    exact this.alloc _
  have HRes : Hid (BoxN (w.heap.size + 2) 26 #[.string (⟨#[]⟩ : ByteArray), .slice none 0 0] (((w.alloc (.cells #[.string (bs key), .slice a l.length c] 26)).alloc (.cells (noteR x) 48)).alloc (.cells #[.string (⟨#[]⟩ : ByteArray), .slice none 0 0] 26))) := by
    have := box_new ((w.alloc (.cells #[.string (bs key), .slice a l.length c] 26)).alloc (.cells (noteR x) 48)) 26 #[.string (⟨#[]⟩ : ByteArray), .slice none 0 0]
    rw [World.size_alloc, World.size_alloc] at this
    exact this
  clear h hb0 hl hlc hcm
  generalize hn : l.length = n at *
  have HN := Lib.hid hn
  clear hn
  have q0 := DosN.c0 HDos.out
  have q1 := DosN.c1 HDos.out
  go_enter Tryz.func25, Tryz.ntmps25
  go_wp2_with fail
  clear q0 q1
  generalize (((w.alloc (.cells #[.string (bs key), .slice a n c] 26)).alloc (.cells (noteR x) 48)).alloc (.cells #[.string (⟨#[]⟩ : ByteArray), .slice none 0 0] 26)) = W0 at *
  simp only [Nat.add_assoc, Nat.reduceAdd]
  refine HV.out.mono ?_
  rintro e w1 ⟨rfl, hb⟩
  have HD1 : Hid (DosN w.heap.size key (.slice a n c) w1) := BoxN.below HDos.out hb HDos.out.lt
  have HN1 : Hid (NoteN (w.heap.size + 1) x w1) := BoxN.below HNo.out hb HNo.out.lt
  have HR1 := Lib.hid (BoxN.below HRes.out hb HRes.out.lt)
  have HB1 := Lib.hid (HB0.out.trans (hb.mono HB0.out.size))
  have hz1 : w.heap.size + 2 < w1.heap.size := HR1.out.lt
  clear hb HV HDos HRes HNo
  cases hd : dosB ⟨key, l⟩
  · have HE : Hid (addN ⟨key, l⟩ x = (⟨[], []⟩, 400)) := addN_bad hd
    clear hd
    have hr := HR1.out
    have z0 := BoxN.cell hr 0 _ rfl
    have z1 := BoxN.cell hr 1 _ rfl
    have zf := BoxN.frozen hr
    have HZ := Lib.hid (BoxN.set2 hr (.string (⟨#[]⟩ : ByteArray)) (.slice none 0 0))
    have HBf := Lib.hid ((HB1.out.setCell (p := ⟨w.heap.size + 2, 0, none⟩) (by show w.heap.size ≤ w.heap.size + 2; omega) (.string (⟨#[]⟩ : ByteArray))).setCell (p := ⟨w.heap.size + 2, 1, none⟩) (by show w.heap.size ≤ w.heap.size + 2; omega) (.slice none 0 0))
    clear hr
    go_wp2
    have hE := HZ.out
    exact bodyPost_ret (v := .tuple #[dosV [] (.slice none 0 0), .int .i64 400]) (by simp [results, Tryz.results25, go_sem, BoxN.cell hE 0 _ rfl, BoxN.cell hE 1 _ rfl]; try rfl) rfl ⟨_, by rw [HE.out]; try rfl, by rw [HE.out]; exact OwnK.nil _ _, HBf.out⟩
  obtain ⟨d1, d2, d3, d4⟩ := dosB_ok hd
  have HD := Lib.hid hd
  have HLn : Hid (l.length ≤ 60) := d4
  obtain ⟨p, hp⟩ : ∃ p, p = placeN x l := ⟨_, rfl⟩
  have HP := Lib.hid hp
  have HPl : Hid (p ≤ l.length) := by show _ ≤ _; rw [hp]; exact placeN_le _ _
  have HSe := search_any (.slice a n c) l x w1 (HL.out.later HB1.out (Nat.le_refl _)) (by rw [HN.out]; exact HLl.out) d3
  rw [← hp] at HSe
  replace HSe := Lib.hid HSe
  clear hd d1 d2 d3 d4 hp
  have q0 := DosN.c0 HD1.out
  have q1 := DosN.c1 HD1.out
  obtain ⟨y0, y1, y2, y3⟩ := NoteN.cells HN1.out
  go_wp2_with fail
  clear q0 q1 y0 y1 y2 y3
  refine HSe.out.mono ?_
  rintro e w2 ⟨is, rfl, his, hb⟩
  have HIs := Lib.hid his
  have HD2 : Hid (DosN w.heap.size key (.slice a n c) w2) := BoxN.below HD1.out hb HD1.out.lt
  have HN2 : Hid (NoteN (w.heap.size + 1) x w2) := BoxN.below HN1.out hb HN1.out.lt
  have HR2 := Lib.hid (BoxN.below HR1.out hb HR1.out.lt)
  have HB2 := Lib.hid (HB1.out.trans (hb.mono HB1.out.size))
  have hz2 : w.heap.size + 2 < w2.heap.size := HR2.out.lt
  clear hb HSe HD1 HN1 HR1 HB1 hz1 his
  have HQ : Hid (∀ W, w2.grownBy W none → W.cell? ⟨w.heap.size, 0, none⟩ = some (.string (bs key)) ∧ W.cell? ⟨w.heap.size, 1, none⟩ = some (.slice a n c) ∧ W.cell? ⟨w.heap.size + 1, 0, none⟩ = some (.int .i64 x.unit) ∧ W.cell? ⟨w.heap.size + 1, 1, none⟩ = some (.int .i64 x.day) ∧ W.cell? ⟨w.heap.size + 1, 2, none⟩ = some (.int .i64 x.kind) ∧ W.cell? ⟨w.heap.size + 1, 3, none⟩ = some (.string (bs x.text))) := fun W hW =>
    have hd := BoxN.grown HD2.out hW (by simp)
    ⟨DosN.c0 hd, DosN.c1 hd, NoteN.cells (BoxN.grown HN2.out hW (by simp))⟩
  have HB : Hid (∀ W, w2.grownBy W none → Below w.heap.size w W) := fun W hW => HB2.out.trans ((grown_below hW).mono HB2.out.size)
  obtain ⟨l2, hl2⟩ : ∃ l2, l2 = l.take p ++ x :: l.drop p := ⟨_, rfl⟩
  have HL2 : Hid (l2 = insN x l) := by show _ = _; rw [hl2, HP.out]; rfl
  have HL2l : Hid (l2.length ≤ 100) := by show _ ≤ _; rw [hl2]; have := HLn.out; simp; omega
  have HL2e := Lib.hid hl2
  clear hl2
  go_wp2
  refine wp_region_calm ⟨[4, 7, 8, 10], VAddF w2.heap.size l l2 x, fun k => if k = 8 then [4] else [], 99, none, 11⟩ (by kernel_rfl) (by kernel_rfl) (by kernel_rfl) (fun g h => by cases h) (fun k hk v W W' c h hg hc => vaddF_kept h hg fun g hh => ?_) ?_
  · obtain ⟨n1, _, i, j, u, hd, hik, hre, hu, hF⟩ := hc g hh
    refine ⟨n1, u, hu, ?_⟩
    simp only at hd
    split at hd
    · obtain rfl : j = 4 := by simpa using hd
      exact hF
    · simp at hd
  iterate 4 (refine calm_quiet (v := ?_) (by rfl) (by rfl) (fun W hW hD => ?_) ?_; rotate_left; (· (obtain ⟨z0, z1, y0, y1, y2, y3⟩ := HQ.out W hW; clear hD hW; go_simp; try with_reducible rfl)); simp only [Act.put, List.setIfInBounds_toArray, List.set_cons_zero, List.set_cons_succ, Nat.reduceAdd, Nat.zero_add])
  refine calm_makes (by rfl) (by rfl) (fun W hW hD Kc hK => ?_) (fun v24 => ?_)
  · refine wp_of_call (f := 59) (args := #[.slice a n c]) ?_ ((clone_any (.slice a n c) l W (HL.out.later (HB.out W hW) (Nat.le_refl _)) (by have := HLn.out; omega)).mono ?_)
    · clear hD hW hK
      go_simp
    · rintro e w5 ⟨v, rfl, hown, hb5⟩
      have hz := hW.size
      exact ⟨_, rfl, hK _ _ (made_below (hown.mono hz) hb5 (World.ownsRow.lt hown))⟩
  simp only [Act.put, List.setIfInBounds_toArray, List.set_cons_zero, List.set_cons_succ, Nat.reduceAdd, Nat.zero_add]
  iterate 1 (refine calm_quiet (v := ?_) (by rfl) (by rfl) (fun W hW hD => ?_) ?_; rotate_left; (· (obtain ⟨z0, z1, y0, y1, y2, y3⟩ := HQ.out W hW; clear hD hW; go_simp; try with_reducible rfl)); simp only [Act.put, List.setIfInBounds_toArray, List.set_cons_zero, List.set_cons_succ, Nat.reduceAdd, Nat.zero_add])
  refine calm_quiet (v := noteV x) (by rfl) (by rfl) (fun W hW hD => ?_) ?_
  · obtain ⟨z0, z1, y0, y1, y2, y3⟩ := HQ.out W hW
    clear hD hW
    go_simp
  simp only [Act.put, List.setIfInBounds_toArray, List.set_cons_zero, List.set_cons_succ, Nat.reduceAdd, Nat.zero_add]
  refine calm_makes (by rfl) (by rfl) (fun W hW hD Kc hK => ?_) (fun v27 => ?_)
  · refine wp_of_run (v := .slice (some ⟨W.heap.size, 0, none⟩) 1 1) (w' := W.alloc (.cells (noteR x) 48)) ?_ (hK _ _ (made_below ⟨_, rfl, box_new W _ _⟩ ((Below.refl _ _).alloc (Nat.le_refl _) _) (fun g hg => by cases hg; simp)))
    clear hD hW hK
    go_simp
  simp only [Act.put, List.setIfInBounds_toArray, List.set_cons_zero, List.set_cons_succ, Nat.reduceAdd, Nat.zero_add]
  refine calm_makes (by rfl) (by rfl) (fun W hW hD Kc hK => ?_) (fun v28 => ?_)
  · have h4 : OwnK noteK w2.heap.size W v24 l := hD [] 4 (by kernel_rfl) (by kernel_rfl) (by kernel_rfl)
    obtain ⟨b, rfl, h7⟩ : ∃ b, v27 = .slice (some ⟨b, 0, none⟩) 1 1 ∧ BoxN b 48 (noteR x) W := hD [] 7 (by kernel_rfl) (by kernel_rfl) (by kernel_rfl)
    have hI := insert_any v24 l x p b w2.heap.size W h4 h7 (by have := HLn.out; omega) hW.size HPl.out
    rw [← HL2e.out] at hI
    obtain ⟨xa, xc, hv24, _, _⟩ := h4.shape
    refine wp_of_call (f := 58) (args := #[v24, .int .i64 p, .slice (some ⟨b, 0, none⟩) 1 1]) ?_ (hI.mono ?_)
    · clear hD hW hK hI h4 h7
      subst hv24
      go_simp
    · rintro e w5 ⟨v, rfl, h1, h2, h3⟩
      exact ⟨_, rfl, hK _ _ (made_grown (j := 4) (u := v24) (by kernel_rfl) rfl h1 h2 (fun g hg => ⟨(World.ownsRow.lt h1 g hg).2, grown_own h3 hg⟩))⟩
  simp only [Act.put, List.setIfInBounds_toArray, List.set_cons_zero, List.set_cons_succ, Nat.reduceAdd, Nat.zero_add]
  refine calm_quiet (v := .agg #[.string (bs key), v28]) (by rfl) (by rfl) (fun W hW hD => ?_) ?_
  · have h8 : OwnK noteK w2.heap.size W v28 l2 := hD [] 8 (by kernel_rfl) (by kernel_rfl) (by kernel_rfl)
    obtain ⟨xa, xc, rfl, _, _⟩ := h8.shape
    clear hD hW h8
    go_simp
  simp only [Act.put, List.setIfInBounds_toArray, List.set_cons_zero, List.set_cons_succ, Nat.reduceAdd, Nat.zero_add]
  refine calm_makes (by rfl) (by rfl) (fun W hW hD Kc hK => ?_) (fun v8 => ?_)
  · have hz := hW.size
    refine wp_of_run (v := .pointer (some ⟨W.heap.size, 0, none⟩)) (w' := W.alloc (.cells #[.string (⟨#[]⟩ : ByteArray), .slice none 0 0] 26)) ?_ (hK _ _ (made_plain ⟨_, rfl, hz, box_new W _ _⟩ ((Below.refl _ _).alloc (Nat.le_refl _) _) rfl))
    clear hD hW hK
    go_simp
  simp only [Act.put, List.setIfInBounds_toArray, List.set_cons_zero, List.set_cons_succ, Nat.reduceAdd, Nat.zero_add]
  refine calm_tail (by rfl) fun W hW hF => ?_
  have h8 : OwnK noteK w2.heap.size W v28 l2 := hF 8 (by kernel_rfl) (by kernel_rfl)
  obtain ⟨g, rfl, hgB, hgx⟩ : ∃ g, v8 = .pointer (some ⟨g, 0, none⟩) ∧ w2.heap.size ≤ g ∧ BoxN g 26 #[.string (⟨#[]⟩ : ByteArray), .slice none 0 0] W := hF 10 (by kernel_rfl) (by kernel_rfl)
  obtain ⟨xa, xc, hv28, _, _⟩ := h8.shape
  subst hv28
  generalize hxn : l2.length = xn at *
  have HXn := Lib.hid hxn
  clear hxn
  have hres := BoxN.grown HR2.out hW (by simp)
  have hbW := HB.out W hW
  have z0 := BoxN.cell hgx 0 _ rfl
  have z1 := BoxN.cell hgx 1 _ rfl
  have zf := BoxN.frozen hgx
  have HW : Hid (DosN g key (.slice xa xn xc) ((W.setCell ⟨g, 0, none⟩ (.string (bs key))).setCell ⟨g, 1, none⟩ (.slice xa xn xc)) ∧ OwnK noteK w.heap.size ((W.setCell ⟨g, 0, none⟩ (.string (bs key))).setCell ⟨g, 1, none⟩ (.slice xa xn xc)) (.slice xa xn xc) l2 ∧ BoxN (w.heap.size + 2) 26 #[.string (⟨#[]⟩ : ByteArray), .slice none 0 0] ((W.setCell ⟨g, 0, none⟩ (.string (bs key))).setCell ⟨g, 1, none⟩ (.slice xa xn xc)) ∧ Below w.heap.size w ((W.setCell ⟨g, 0, none⟩ (.string (bs key))).setCell ⟨g, 1, none⟩ (.slice xa xn xc))) :=
    ⟨BoxN.set2 hgx _ _, ((h8.setBox hgx (by decide) 0 (.string (bs key))).setBox (hgx.set 0 (.string (bs key))) (by decide) 1 _).mono (by omega), (hres.other (by omega)).other (by omega), (hbW.setCell (p := ⟨g, 0, none⟩) (by show _ ≤ g; omega) _).setCell (p := ⟨g, 1, none⟩) (by show _ ≤ g; omega) _⟩
  clear hF hW h8 hres hbW hgx HQ HB HD2 HN2 HR2 HB2
  cases is
  rotate_left
  · have HE : Hid (addN ⟨key, l⟩ x = (⟨[], []⟩, 400)) := addN_old (HIs.out rfl)
    go_wp2_with (refine wpl_gen (fun W' => DosN g key (.slice xa xn xc) W' ∧ OwnK noteK w.heap.size W' (.slice xa xn xc) l2 ∧ BoxN (w.heap.size + 2) 26 #[.string (⟨#[]⟩ : ByteArray), .slice none 0 0] W' ∧ Below w.heap.size w W') HW.out ?_; rintro W5 ⟨g1, g2, g3, g4⟩; have y0 := BoxN.cell g3 0 _ rfl; have y1 := BoxN.cell g3 1 _ rfl; have yf := BoxN.frozen g3; have HZ := Lib.hid (BoxN.set2 g3 (.string (⟨#[]⟩ : ByteArray)) (.slice none 0 0)); have HBf := Lib.hid ((g4.setCell (p := ⟨w.heap.size + 2, 0, none⟩) (by show w.heap.size ≤ w.heap.size + 2; omega) (.string (⟨#[]⟩ : ByteArray))).setCell (p := ⟨w.heap.size + 2, 1, none⟩) (by show w.heap.size ≤ w.heap.size + 2; omega) (.slice none 0 0)); clear g1 g2 g3 g4)
    have hE := HZ.out
    exact bodyPost_ret (v := .tuple #[dosV [] (.slice none 0 0), .int .i64 400]) (by simp [results, Tryz.results25, go_sem, BoxN.cell hE 0 _ rfl, BoxN.cell hE 1 _ rfl]; try rfl) rfl ⟨_, by rw [HE.out]; try rfl, by rw [HE.out]; exact OwnK.nil _ _, HBf.out⟩
  · go_wp2_with (refine wpl_gen (fun W' => DosN g key (.slice xa xn xc) W' ∧ OwnK noteK w.heap.size W' (.slice xa xn xc) l2 ∧ BoxN (w.heap.size + 2) 26 #[.string (⟨#[]⟩ : ByteArray), .slice none 0 0] W' ∧ Below w.heap.size w W') HW.out ?_; rintro W5 ⟨g1, g2, g3, g4⟩; have HV5 := Lib.hid (vValid_any key _ l2 W5 (g2.rows noteOk) (by rw [HXn.out]; have := HL2l.out; omega)); have q0 := DosN.c0 g1; have q1 := DosN.c1 g1; have HG1 := Lib.hid g1; have HG2 := Lib.hid g2; have HG3 := Lib.hid g3; have HG4 := Lib.hid g4; clear g1 g2 g3 g4)
    clear q0 q1
    refine HV5.out.mono ?_
    rintro e w6 ⟨rfl, hb⟩
    have HO6 := Lib.hid (HG1.out.below hb HG1.out.lt)
    have HB6 := Lib.hid (HG4.out.trans (hb.mono HG4.out.size))
    have HR6 := Lib.hid (BoxN.below HG3.out hb HG3.out.lt)
    have HK6 := Lib.hid (OwnK.below HG2.out hb (Nat.le_refl _))
    clear hb HV5 HG1 HG2 HG3 HG4
    cases hv : dosB ⟨key, l2⟩
    · have HE : Hid (addN ⟨key, l⟩ x = (⟨[], []⟩, 400)) := by
        show _ = _
        unfold addN
        rw [← HL2.out, HD.out, hv]
        rfl
      clear hv
      have hr := HR6.out
      have z0 := BoxN.cell hr 0 _ rfl
      have z1 := BoxN.cell hr 1 _ rfl
      have zf := BoxN.frozen hr
      have HZ := Lib.hid (BoxN.set2 hr (.string (⟨#[]⟩ : ByteArray)) (.slice none 0 0))
      have HBf := Lib.hid ((HB6.out.setCell (p := ⟨w.heap.size + 2, 0, none⟩) (by show w.heap.size ≤ w.heap.size + 2; omega) (.string (⟨#[]⟩ : ByteArray))).setCell (p := ⟨w.heap.size + 2, 1, none⟩) (by show w.heap.size ≤ w.heap.size + 2; omega) (.slice none 0 0))
      clear hr
      go_wp2
      have hE := HZ.out
      exact bodyPost_ret (v := .tuple #[dosV [] (.slice none 0 0), .int .i64 400]) (by simp [results, Tryz.results25, go_sem, BoxN.cell hE 0 _ rfl, BoxN.cell hE 1 _ rfl]; try rfl) rfl ⟨_, by rw [HE.out]; try rfl, by rw [HE.out]; exact OwnK.nil _ _, HBf.out⟩
    · have HE : Hid (addN ⟨key, l⟩ x = (⟨key, l2⟩, 0)) := by
        show _ = _
        unfold addN
        rw [← HL2.out, HD.out, hv]
        rfl
      have q0 := BoxN.cell HO6.out 0 _ rfl
      have q1 := BoxN.cell HO6.out 1 _ rfl
      have hr := HR6.out
      have z0 := BoxN.cell hr 0 _ rfl
      have z1 := BoxN.cell hr 1 _ rfl
      have zf := BoxN.frozen hr
      have HZ := Lib.hid (BoxN.set2 hr (.string (bs key)) (.slice xa xn xc))
      have HKf := Lib.hid ((HK6.out.setBox hr (by decide) 0 (.string (bs key))).setBox (hr.set 0 (.string (bs key))) (by decide) 1 (.slice xa xn xc))
      have HBf := Lib.hid ((HB6.out.setCell (p := ⟨w.heap.size + 2, 0, none⟩) (by show w.heap.size ≤ w.heap.size + 2; omega) (.string (bs key))).setCell (p := ⟨w.heap.size + 2, 1, none⟩) (by show w.heap.size ≤ w.heap.size + 2; omega) (.slice xa xn xc))
      clear hr hv
      go_wp2
      have hE := HZ.out
      exact bodyPost_ret (v := .tuple #[dosV key (.slice xa xn xc), .int .i64 0]) (by simp [results, Tryz.results25, go_sem, BoxN.cell hE 0 _ rfl, BoxN.cell hE 1 _ rfl]; try rfl) rfl ⟨_, by rw [HE.out]; try rfl, by rw [HE.out]; exact HKf.out, HBf.out⟩
end Go.Proofs.YteicimmdcdjagaaGreatDoor
