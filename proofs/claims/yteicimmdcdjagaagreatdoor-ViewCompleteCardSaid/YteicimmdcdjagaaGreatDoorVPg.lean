import Derived.Test.YteicimmdcdjagaaGreatDoorVPage
set_option linter.unusedVariables false
set_option linter.unusedSimpArgs false

/- view: Page. -/
set_option linter.unusedVariables false
set_option linter.unusedSimpArgs false
namespace Go.Proofs.YteicimmdcdjagaaGreatDoor
open Go.RowKit Go.Shelf

/-- What Page returns. -/
def pageE (d : VDos) (id : Int) : VPage × Int := if dosB d && inZ id 0 99 then (⟨id, ofL d id, saltB d.key id, proofL (sealsL d) id.toNat⟩, 0) else (⟨0, [], [], []⟩, 400)
theorem pageE_bad {d : VDos} {id : Int} (h : (dosB d && inZ id 0 99) = false) : pageE d id = (⟨0, [], [], []⟩, 400) := by unfold pageE; rw [h]; rfl
theorem pageE_ok {d : VDos} {id : Int} (h : (dosB d && inZ id 0 99) = true) : pageE d id = (⟨id, ofL d id, saltB d.key id, proofL (sealsL d) id.toNat⟩, 0) := by unfold pageE; rw [h]; rfl
/-- What the steps of Page's region leave. -/
def PgF (B : Nat) (l : List VNote) (ls : List Bytes) (id : Int) (S : Bytes) : Nat → Value → World → Prop := fun k v W =>
  if k = 2 then v = .agg (arrC ls)
  else ∃ nv pv, v = pageV id nv S pv ∧ OwnK noteK B W nv (ofN l id) ∧ OwnS B W pv (proofL ls id.toNat)
theorem pgF_kept {B k : Nat} {l : List VNote} {ls : List Bytes} {id : Int} {S : Bytes} {v : Value} {W W' : World} (h : PgF B l ls id S k v W) (hg : W.grownBy W' none) : PgF B l ls id S k v W' := by
  unfold PgF at h ⊢
  by_cases h7 : k = 2
  · rw [if_pos h7] at h ⊢
    exact h
  rw [if_neg h7] at h ⊢
  obtain ⟨nv, pv, h1, h2, h3⟩ := h
  exact ⟨nv, pv, h1, h2.kept hg (fun g h => by cases h), ownS_kept h3 hg (fun g h => by cases h)⟩
theorem ownS_shape {base : Nat} {w : World} {v : Value} {l : List Bytes} (h : OwnS base w v l) : ∃ a c, v = .slice a l.length c ∧ l.length ≤ c ∧ c ≤ maxLen := by
  rcases h.2 with ⟨rfl, h0⟩ | ⟨g, cap, cur, rfl, _, _, h1, h2, _⟩
  · exact ⟨none, 0, by rw [h0], by omega, Nat.zero_le _⟩
  · exact ⟨_, cap, rfl, h1, h2⟩
set_option maxRecDepth 100000 in
set_option maxHeartbeats 4000000 in
theorem vPage_any (key : List UInt8) (nv : Value) (l : List VNote) (id : Int) (w : World) (h : RowsAt noteK w.heap.size w nv l) (hl : l.length ≤ 1000000) (hT : Rounds w) :
    Calls Tryz.prog 16 #[dosV key nv, .int .i64 id] w fun e w' => ∃ nv' pv, e = .returned (.tuple #[pageV (pageE ⟨key, l⟩ id).1.unit nv' (pageE ⟨key, l⟩ id).1.salt pv, .int .i64 (pageE ⟨key, l⟩ id).2]) ∧ OwnK noteK w.heap.size w' nv' (pageE ⟨key, l⟩ id).1.notes ∧ OwnS w.heap.size w' pv (pageE ⟨key, l⟩ id).1.proof ∧ Below w.heap.size w w' := by
  obtain ⟨a, c, rfl, hlc, hcm⟩ := h.shape
  have hb0 : Below w.heap.size w ((w.alloc (.cells #[.string (bs key), .slice a l.length c] 26)).alloc (.cells #[.int .i64 0, .slice none 0 0, .string (⟨#[]⟩ : ByteArray), .slice none 0 0] 39)) := ((Below.refl _ _).alloc (Nat.le_refl _) _).alloc (by simp) _
  have HV := Lib.hid (vValid_any key (.slice a l.length c) l _ (h.later hb0 (Nat.le_refl _)) hl)
  have HB0 := Lib.hid hb0
  have HL := Lib.hid h
  have HT := Lib.hid hT
  have HDos : Hid (DosN w.heap.size key (.slice a l.length c) ((w.alloc (.cells #[.string (bs key), .slice a l.length c] 26)).alloc (.cells #[.int .i64 0, .slice none 0 0, .string (⟨#[]⟩ : ByteArray), .slice none 0 0] 39))) := (box_new w _ _).alloc _
  have HRes : Hid (BoxN (w.heap.size + 1) 39 #[.int .i64 0, .slice none 0 0, .string (⟨#[]⟩ : ByteArray), .slice none 0 0] ((w.alloc (.cells #[.string (bs key), .slice a l.length c] 26)).alloc (.cells #[.int .i64 0, .slice none 0 0, .string (⟨#[]⟩ : ByteArray), .slice none 0 0] 39))) := by
    have := box_new (w.alloc (.cells #[.string (bs key), .slice a l.length c] 26)) 39 #[.int .i64 0, .slice none 0 0, .string (⟨#[]⟩ : ByteArray), .slice none 0 0]
    rw [World.size_alloc] at this
    exact this
  clear h hb0 hT hlc hcm
  generalize hn : l.length = n at *
  have HN := Lib.hid hn
  clear hn
  have q0 := DosN.c0 HDos.out
  have q1 := DosN.c1 HDos.out
  go_enter Tryz.func16, Tryz.ntmps16
  go_wp2_with fail
  clear q0 q1
  generalize ((w.alloc (.cells #[.string (bs key), .slice a n c] 26)).alloc (.cells #[.int .i64 0, .slice none 0 0, .string (⟨#[]⟩ : ByteArray), .slice none 0 0] 39)) = W0 at *
  refine HV.out.mono ?_
  rintro e w1 ⟨rfl, hb⟩
  have HD1 : Hid (DosN w.heap.size key (.slice a n c) w1) := BoxN.below HDos.out hb HDos.out.lt
  have HR1 := Lib.hid (BoxN.below HRes.out hb HRes.out.lt)
  have HB1 := Lib.hid (HB0.out.trans (hb.mono HB0.out.size))
  have hz1 : w.heap.size + 1 < w1.heap.size := HR1.out.lt
  clear hb HV HDos HRes
  cases hd : dosB ⟨key, l⟩
  · have HE : Hid (pageE ⟨key, l⟩ id = (⟨0, [], [], []⟩, 400)) := pageE_bad (by rw [hd]; rfl)
    clear hd
    have hr := HR1.out
    have z0 := BoxN.cell hr 0 _ rfl
    have z1 := BoxN.cell hr 1 _ rfl
    have z2 := BoxN.cell hr 2 _ rfl
    have z3 := BoxN.cell hr 3 _ rfl
    have zf := BoxN.frozen hr
    have HZ := Lib.hid (BoxN.set4 hr (.int .i64 0) (.slice none 0 0) (.string (⟨#[]⟩ : ByteArray)) (.slice none 0 0))
    have HBf := Lib.hid (below_set4 HB1.out (g := w.heap.size + 1) (by omega) (.int .i64 0) (.slice none 0 0) (.string (⟨#[]⟩ : ByteArray)) (.slice none 0 0))
    clear hr
    go_wp2
    have hE := HZ.out
    exact bodyPost_ret (v := .tuple #[pageV 0 (.slice none 0 0) [] (.slice none 0 0), .int .i64 400]) (by simp [results, Tryz.results16, go_sem, BoxN.cell hE 0 _ rfl, BoxN.cell hE 1 _ rfl, BoxN.cell hE 2 _ rfl, BoxN.cell hE 3 _ rfl]; try rfl) rfl ⟨_, _, by rw [HE.out]; try rfl, by rw [HE.out]; exact OwnK.nil _ _, by rw [HE.out]; exact World.ownsRow_nil _ _ _ _, HBf.out⟩
  cases hi : inZ id 0 99
  · have HE : Hid (pageE ⟨key, l⟩ id = (⟨0, [], [], []⟩, 400)) := pageE_bad (by rw [hd, hi]; rfl)
    have HI := Lib.hid (visIn_eq hi w1)
    clear hd hi
    go_wp2_with fail
    refine HI.out.mono ?_
    rintro e w2 ⟨rfl, rfl⟩
    have hr := HR1.out
    have z0 := BoxN.cell hr 0 _ rfl
    have z1 := BoxN.cell hr 1 _ rfl
    have z2 := BoxN.cell hr 2 _ rfl
    have z3 := BoxN.cell hr 3 _ rfl
    have zf := BoxN.frozen hr
    have HZ := Lib.hid (BoxN.set4 hr (.int .i64 0) (.slice none 0 0) (.string (⟨#[]⟩ : ByteArray)) (.slice none 0 0))
    have HBf := Lib.hid (below_set4 HB1.out (g := w.heap.size + 1) (by omega) (.int .i64 0) (.slice none 0 0) (.string (⟨#[]⟩ : ByteArray)) (.slice none 0 0))
    clear hr
    go_wp2
    have hE := HZ.out
    exact bodyPost_ret (v := .tuple #[pageV 0 (.slice none 0 0) [] (.slice none 0 0), .int .i64 400]) (by simp [results, Tryz.results16, go_sem, BoxN.cell hE 0 _ rfl, BoxN.cell hE 1 _ rfl, BoxN.cell hE 2 _ rfl, BoxN.cell hE 3 _ rfl]; try rfl) rfl ⟨_, _, by rw [HE.out]; try rfl, by rw [HE.out]; exact OwnK.nil _ _, by rw [HE.out]; exact World.ownsRow_nil _ _ _ _, HBf.out⟩
  have HE : Hid (pageE ⟨key, l⟩ id = (⟨id, ofL ⟨key, l⟩ id, saltB key id, proofL (sealsL ⟨key, l⟩) id.toNat⟩, 0)) := pageE_ok (by rw [hd, hi]; rfl)
  have HI := Lib.hid (visIn_eq hi w1)
  obtain ⟨d1, d2, d3⟩ := dosB_z hd
  have HKy := Lib.hid d1
  have HZ := Lib.hid d2
  have HLl : Hid (l.length ≤ 60) := d3
  have HId : Hid (0 ≤ id ∧ id < 100) := by
    have := hi
    unfold inZ at this
    simp at this
    exact ⟨by omega, by omega⟩
  clear hd hi d1 d2 d3
  go_wp2_with fail
  refine HI.out.mono ?_
  rintro e w2 ⟨rfl, rfl⟩
  obtain ⟨ls, hls⟩ : ∃ ls, ls = sealsL ⟨key, l⟩ := ⟨_, rfl⟩
  have HLs := Lib.hid hls
  have HSl : Hid (ls.length = 100) := by show _ = _; rw [hls]; exact sealsL_length _
  have HLe : Hid (∀ x ∈ ls, x.length = 32) := fun x hx => by
    rw [hls] at hx
    obtain ⟨i, _, rfl⟩ := List.mem_map.1 hx
    exact nodeB_length _ _
  clear hls
  obtain ⟨S, hS⟩ : ∃ S, S = saltB key id := ⟨_, rfl⟩
  have HS := Lib.hid hS
  clear hS
  have HQ : Hid (∀ W, w1.grownBy W none → W.cell? ⟨w.heap.size, 0, none⟩ = some (.string (bs key)) ∧ W.cell? ⟨w.heap.size, 1, none⟩ = some (.slice a n c)) := fun W hW =>
    have hd := BoxN.grown HD1.out hW (by simp)
    ⟨DosN.c0 hd, DosN.c1 hd⟩
  have HB : Hid (∀ W, w1.grownBy W none → Below w.heap.size w W) := fun W hW => HB1.out.trans ((grown_below hW).mono HB1.out.size)
  go_wp2
  refine wp_region_calm ⟨[2, 4], PgF w1.heap.size l ls id S, fun _ => [], 99, none, 5⟩ (by kernel_rfl) (by kernel_rfl) (by kernel_rfl) (fun g h => by cases h) (fun k hk v W W' c h hg hc => ?_) ?_
  · cases c with
    | none => exact pgF_kept h hg
    | some g => obtain ⟨_, _, i, j, u, hd, _⟩ := hc g rfl; simp at hd
  iterate 2 (refine calm_quiet (v := ?_) (by rfl) (by rfl) (fun W hW hD => ?_) ?_; rotate_left; (· (obtain ⟨z0, z1⟩ := HQ.out W hW; clear hD hW; go_simp; try with_reducible rfl)); simp only [Act.put, List.setIfInBounds_toArray, List.set_cons_zero, List.set_cons_succ, Nat.reduceAdd, Nat.zero_add])
  refine calm_makes (by rfl) (by rfl) (fun W hW hD Kc hK => ?_) (fun v18 => ?_)
  · refine wp_of_call (f := 37) (args := #[dosV key (.slice a n c)]) ?_ ((seals_any key (.slice a n c) l W (HL.out.later (HB.out W hW) (Nat.le_refl _)) HZ.out (by have := HLl.out; omega) (by rw [HKy.out]; omega) (HT.out.below (HB.out W hW) (Nat.le_refl _))).mono ?_)
    · obtain ⟨z0, z1⟩ := HQ.out W hW
      clear hD hW hK
      go_simp
    · rintro e w5 ⟨rfl, hb5⟩
      exact ⟨_, rfl, hK _ _ (made_plain (by show _ = _; rw [HLs.out]; rfl) hb5 rfl)⟩
  simp only [Act.put, List.setIfInBounds_toArray, List.set_cons_zero, List.set_cons_succ, Nat.reduceAdd, Nat.zero_add]
  iterate 1 (refine calm_quiet (v := ?_) (by rfl) (by rfl) (fun W hW hD => ?_) ?_; rotate_left; (· (obtain ⟨z0, z1⟩ := HQ.out W hW; clear hD hW; go_simp; try with_reducible rfl)); simp only [Act.put, List.setIfInBounds_toArray, List.set_cons_zero, List.set_cons_succ, Nat.reduceAdd, Nat.zero_add])
  refine calm_makes (by rfl) (by rfl) (fun W hW hD Kc hK => ?_) (fun v19 => ?_)
  · obtain rfl : v18 = .agg (arrC ls) := hD [] 2 (by kernel_rfl) (by kernel_rfl) (by kernel_rfl)
    refine wp_of_call (f := 47) (args := #[dosV key (.slice a n c), .agg (arrC ls), .int .i64 id]) ?_ ((page_any key (.slice a n c) l ls id W (HL.out.later (HB.out W hW) (Nat.le_refl _)) (by have := HLl.out; omega) (by rw [HKy.out]; omega) HSl.out HLe.out HId.out.1 HId.out.2 (HT.out.below (HB.out W hW) (Nat.le_refl _))).mono ?_)
    · obtain ⟨z0, z1⟩ := HQ.out W hW
      clear hD hW hK
      go_simp
    · rintro e w5 ⟨nv', pv, rfl, hn5, hp5, hb5⟩
      have hz := hW.size
      exact ⟨_, rfl, hK _ _ (made_plain ⟨nv', pv, by show _ = _; rw [HS.out]; rfl, hn5.mono hz, OwnS.mono hp5 hz⟩ hb5 rfl)⟩
  simp only [Act.put, List.setIfInBounds_toArray, List.set_cons_zero, List.set_cons_succ, Nat.reduceAdd, Nat.zero_add]
  refine calm_tail (by rfl) fun W hW hF => ?_
  obtain ⟨nv', pv, rfl, hown, hpo⟩ : ∃ nv pv, v19 = pageV id nv S pv ∧ OwnK noteK w1.heap.size W nv (ofN l id) ∧ OwnS w1.heap.size W pv (proofL ls id.toNat) := hF 4 (by kernel_rfl) (by kernel_rfl)
  obtain ⟨xa, xc, rfl, _, _⟩ := hown.shape
  obtain ⟨pa, pc, rfl, _, _⟩ := ownS_shape hpo
  have hbW := HB.out W hW
  have hr := BoxN.grown HR1.out hW (by simp)
  generalize (ofN l id).length = xn at *
  generalize (proofL ls id.toNat).length = pn at *
  have z0 := BoxN.cell hr 0 _ rfl
  have z1 := BoxN.cell hr 1 _ rfl
  have z2 := BoxN.cell hr 2 _ rfl
  have z3 := BoxN.cell hr 3 _ rfl
  have zf := BoxN.frozen hr
  have HEb := Lib.hid (BoxN.set4 hr (.int .i64 id) (.slice xa xn xc) (.string (bs S)) (.slice pa pn pc))
  have HOn := Lib.hid ((((hown.setOther (g := w.heap.size + 1) (by omega) 0 (.int .i64 id)).setOther (g := w.heap.size + 1) (by omega) 1 (.slice xa xn xc)).setOther (g := w.heap.size + 1) (by omega) 2 (.string (bs S))).setOther (g := w.heap.size + 1) (by omega) 3 (.slice pa pn pc))
  have HOq := Lib.hid (ownS_setOther (ownS_setOther (ownS_setOther (ownS_setOther hpo (g := w.heap.size + 1) (by omega) 0 (.int .i64 id)) (g := w.heap.size + 1) (by omega) 1 (.slice xa xn xc)) (g := w.heap.size + 1) (by omega) 2 (.string (bs S))) (g := w.heap.size + 1) (by omega) 3 (.slice pa pn pc))
  have HBf := Lib.hid (below_set4 hbW (g := w.heap.size + 1) (by omega) (.int .i64 id) (.slice xa xn xc) (.string (bs S)) (.slice pa pn pc))
  clear hF hW hown hr hpo hbW
  go_wp2
  have hE := HEb.out
  have hSe : S = saltB key id := HS.out
  subst hSe
  exact bodyPost_ret (v := .tuple #[pageV id (.slice xa xn xc) (saltB key id) (.slice pa pn pc), .int .i64 0]) (by simp [results, Tryz.results16, go_sem, BoxN.cell hE 0 _ rfl, BoxN.cell hE 1 _ rfl, BoxN.cell hE 2 _ rfl, BoxN.cell hE 3 _ rfl]) rfl ⟨_, _, by rw [HE.out], by rw [HE.out]; exact HOn.out.mono (by omega), by rw [HE.out, ← HLs.out]; exact OwnS.mono HOq.out (by omega), HBf.out⟩
end Go.Proofs.YteicimmdcdjagaaGreatDoor
