import Derived.Test.YteicimmdcdjagaaGreatDoorVSeals
set_option linter.unusedVariables false
set_option linter.unusedSimpArgs false

/- view: Root, page, Page. -/
set_option linter.unusedVariables false
set_option linter.unusedSimpArgs false
namespace Go.Proofs.YteicimmdcdjagaaGreatDoor
open Go.RowKit Go.Shelf

theorem ArrN.strs {g B : Nat} {ls : List Bytes} {W : World} (h : ArrN g ls W) (hg : g < B) (hl : ls.length ≤ 1000000) : StrsAt B W (.slice (some ⟨g, 0, none⟩) ls.length ls.length) ls :=
  ⟨some ⟨g, 0, none⟩, ls.length, rfl, Nat.le_refl _, by unfold maxLen; omega, fun _ => ⟨g, 0, rfl, hg, fun i hi => by rw [Nat.zero_add]; exact BoxN.cell h i _ (arrC_get _ _ hi)⟩⟩
theorem BoxN.set {g : Nat} {t : TypeId} {cs : Array Value} {W : World} (h : BoxN g t cs W) (j : Nat) (v : Value) : BoxN g t (cs.setIfInBounds j v) (W.setCell ⟨g, j, none⟩ v) := heap_setCell_same W g j _ _ v h
theorem BoxN.set4 {g : Nat} {t : TypeId} {a b c d : Value} {W : World} (h : BoxN g t #[a, b, c, d] W) (x y z u : Value) : BoxN g t #[x, y, z, u] ((((W.setCell ⟨g, 0, none⟩ x).setCell ⟨g, 1, none⟩ y).setCell ⟨g, 2, none⟩ z).setCell ⟨g, 3, none⟩ u) := (((h.set 0 x).set 1 y).set 2 z).set 3 u
theorem BoxN.set2 {g : Nat} {t : TypeId} {a b : Value} {W : World} (h : BoxN g t #[a, b] W) (x y : Value) : BoxN g t #[x, y] ((W.setCell ⟨g, 0, none⟩ x).setCell ⟨g, 1, none⟩ y) := (h.set 0 x).set 1 y
theorem grown_cell1 (W : World) (g j : Nat) (v : Value) : W.grownBy (W.setCell ⟨g, j, none⟩ v) (some g) := ⟨rfl, rfl, rfl, by simp [World.setCell], fun k _ hk => Below.heap_setCell _ _ _ _ (fun e => hk (by simp [e]))⟩
theorem OwnK.setOther {α : Type} {K : SK α} {base : Nat} {W : World} {v : Value} {l : List α} (h : OwnK K base W v l) {g : Nat} (hg : g < base) (j : Nat) (u : Value) : OwnK K base (W.setCell ⟨g, j, none⟩ u) v l :=
  h.kept (grown_cell1 W g j u) (fun g' hg' e => by cases hg'; have := (World.ownsRow.lt h _ e).1; omega)
theorem ownS_kept {base : Nat} {l : List Bytes} {v : Value} {W W' : World} {c : Option Nat} (h : OwnS base W v l) (hg : W.grownBy W' c) (hc : ∀ g, c = some g → v.ownBlock ≠ some g) : OwnS base W' v l :=
  World.ownsRow.kept h hg (by
    cases c with
    | none => cases v.ownBlock <;> simp
    | some g => exact .inr (hc g rfl))
theorem ownS_setOther {base : Nat} {W : World} {v : Value} {l : List Bytes} (h : OwnS base W v l) {g : Nat} (hg : g < base) (j : Nat) (u : Value) : OwnS base (W.setCell ⟨g, j, none⟩ u) v l :=
  ownS_kept h (grown_cell1 W g j u) (fun g' hg' e => by cases hg'; have := (World.ownsRow.lt h _ e).1; omega)
theorem below_set4 {B g : Nat} {w W : World} (h : Below B w W) (hg : B ≤ g) (x y z u : Value) : Below B w ((((W.setCell ⟨g, 0, none⟩ x).setCell ⟨g, 1, none⟩ y).setCell ⟨g, 2, none⟩ z).setCell ⟨g, 3, none⟩ u) :=
  (((h.setCell (p := ⟨g, 0, none⟩) hg x).setCell (p := ⟨g, 1, none⟩) hg y).setCell (p := ⟨g, 2, none⟩) hg z).setCell (p := ⟨g, 3, none⟩) hg u
theorem dosB_z {key : List UInt8} {l : List VNote} (h : dosB ⟨key, l⟩ = true) : key.length = 32 ∧ (∀ n ∈ l, NoteZ n) ∧ l.length ≤ 60 := by
  obtain ⟨h1, h2, h3, h4⟩ := dosB_ok h
  exact ⟨h1, fun n hn => (noteB_z (h2 n hn)).1, h4⟩
/-- What Root returns. -/
def rootE (d : VDos) : Bytes × Int := if dosB d then (rootL (sealsL d), 0) else ([], 400)
theorem arr_made (w1 : World) (ls : List Bytes) (hl : ls.length = 100) : ArrN w1.heap.size ls ((w1.alloc (.cells (arrC (List.replicate 100 [])) 74)).setCells w1.heap.size 0 (arrC ls).toList) ∧ Below w1.heap.size w1 ((w1.alloc (.cells (arrC (List.replicate 100 [])) 74)).setCells w1.heap.size 0 (arrC ls).toList) :=
  ⟨ArrN.setAll (box_new w1 _ _) (by rw [hl, List.length_replicate]), below_setCells _ _ ((Below.refl _ _).alloc (Nat.le_refl _) _) (Nat.le_refl _)⟩
theorem wpl_gen {P : Program} {ops : Array Oper} {rest : List Oper} {Q : Exit → Act → World → Prop} {a : Act} {W : World} (R : World → Prop) (h : R W) (k : ∀ W', R W' → wpList P ops Q rest a W') : wpList P ops Q rest a W := k W h
set_option maxRecDepth 100000 in
set_option maxHeartbeats 2000000 in
theorem vRoot_any (key : List UInt8) (nv : Value) (l : List VNote) (w : World) (h : RowsAt noteK w.heap.size w nv l) (hl : l.length ≤ 1000000) (hT : Rounds w) :
    Calls Tryz.prog 11 #[dosV key nv] w fun e w' => e = .returned (.tuple #[.string (bs (rootE ⟨key, l⟩).1), .int .i64 (rootE ⟨key, l⟩).2]) ∧ Below w.heap.size w w' := by
  obtain ⟨a, c, rfl, hlc, hcm⟩ := h.shape
  have hb0 : Below w.heap.size w (w.alloc (.cells #[.string (bs key), .slice a l.length c] 26)) := (Below.refl _ _).alloc (Nat.le_refl _) _
  have HV := Lib.hid (vValid_any key (.slice a l.length c) l _ (h.later hb0 (Nat.le_refl _)) hl)
  have HB0 := Lib.hid hb0
  have HL := Lib.hid h
  have HT := Lib.hid hT
  have HBox := Lib.hid (box_new w 26 #[.string (bs key), .slice a l.length c])
  clear h hb0 hT hlc hcm
  generalize hn : l.length = n at *
  have HN := Lib.hid hn
  clear hn
  go_enter Tryz.func11, Tryz.ntmps11
  go_wp2_with fail
  refine HV.out.mono ?_
  rintro e w1 ⟨rfl, hb⟩
  have HD1 : Hid (DosN w.heap.size key (.slice a n c) w1) := BoxN.below HBox.out hb (by simp)
  have HB1 := Lib.hid (HB0.out.trans (hb.mono (by simp)))
  have hz1 : w.heap.size < w1.heap.size := by have := hb.size; rw [World.size_alloc] at this; omega
  clear hb
  cases hd : dosB ⟨key, l⟩
  · have HE : Hid (rootE ⟨key, l⟩ = ([], 400)) := by show _ = _; unfold rootE; rw [hd]; rfl
    clear hd
    go_wp2
    go_ret2
    exact ⟨by rw [HE.out]; rfl, HB1.out⟩
  · have HE : Hid (rootE ⟨key, l⟩ = (rootL (sealsL ⟨key, l⟩), 0)) := by show _ = _; unfold rootE; rw [hd]; rfl
    obtain ⟨d1, d2, d3⟩ := dosB_z hd
    have HS := Lib.hid (seals_any key (.slice a n c) l w1 (HL.out.later HB1.out (Nat.le_refl _)) d2 (by omega) (by omega) (HT.out.below HB1.out (Nat.le_refl _)))
    have q0 := DosN.c0 HD1.out
    have q1 := DosN.c1 HD1.out
    have hsl := sealsL_length ⟨key, l⟩
    obtain ⟨ls, hls⟩ : ∃ ls, ls = sealsL ⟨key, l⟩ := ⟨_, rfl⟩
    rw [← hls] at HS HE hsl
    have HLe : Hid (∀ x ∈ ls, x.length ≤ 274877906944) := fun x hx => by
      rw [hls] at hx
      obtain ⟨i, _, rfl⟩ := List.mem_map.1 hx
      rw [show (sealB (saltB key i) (ofL ⟨key, l⟩ i)).length = 32 from nodeB_length _ _]
      omega
    clear hd d1 d2 d3 hls
    go_wp2_with fail
    refine HS.out.mono ?_
    rintro e w2 ⟨rfl, hb⟩
    have HB2 := Lib.hid (HB1.out.trans (hb.mono HB1.out.size))
    have HSl := Lib.hid hsl
    have HSz : Hid ((Tryz.prog.info? 74).map (·.size) = some (arrC ls).size) := by show _ = _; rw [arrC_size, hsl]; kernel_rfl
    have HOne : Hid ((arrC ls).all (·.oneCell') = true) := arrC_one _
    have HTh : Hid ((w2.alloc (.cells (arrC (List.replicate 100 [])) 74)).there w2.heap.size 0 (arrC ls).size) := there_new (by rw [arrC_size, arrC_size, hsl, List.length_replicate]; exact Nat.le_refl _)
    clear hb q0 q1 hsl
    go_wp2_with ((with_reducible refine wpList_store_mid ?_ 74 (.tmp 4) (.tmp 9) ?_ w2.heap.size 0 (arrC ls) ?_ ?_ ?_ HSz.out HOne.out ?_); exact rfl; exact rfl; exact rfl; exact rfl; exact HTh.out; refine wpl_gen (fun W' => ArrN w2.heap.size ls W' ∧ Below w2.heap.size w2 W') (arr_made w2 ls HSl.out) ?_; intro W3 hR3)
    have ha3 := hR3.1
    have HB3 := Lib.hid (HB2.out.trans (hR3.2.mono HB2.out.size))
    have HR := Lib.hid (root_any _ ls W3 (ArrN.strs ha3 (BoxN.lt ha3) (by rw [HSl.out]; omega)) (by rw [HSl.out]; omega) HLe.out (HT.out.below HB3.out (Nat.le_refl _)))
    rw [HSl.out] at HR
    clear ha3 hR3
    go_wp2_with fail
    refine HR.out.mono ?_
    rintro e w4 ⟨rfl, hb⟩
    have HB4 := Lib.hid (HB3.out.trans (hb.mono HB3.out.size))
    clear hb
    go_wp2
    go_ret2
    exact ⟨by rw [HE.out]; rfl, HB4.out⟩
/-- What the steps of page's region leave. -/
def PageF (B : Nat) (key : List UInt8) (nv : Value) (l : List VNote) (id : Int) (S : Bytes) : Nat → Value → World → Prop := fun k v W =>
  if k = 3 then ∃ b, v = .func (.func 100) #[] #[.pointer (some ⟨b, 0, none⟩), .pointer (some ⟨b + 1, 0, none⟩)] ∧ DosN b key nv W ∧ Boxed W (b + 1) 3 (.int .i64 id)
  else if k = 4 then OwnK noteK B W v (ofN l id)
  else v = .string (bs S)
theorem pageF_kept {B k : Nat} {key : List UInt8} {nv : Value} {l : List VNote} {id : Int} {S : Bytes} {v : Value} {W W' : World} (h : PageF B key nv l id S k v W) (hg : W.grownBy W' none) : PageF B key nv l id S k v W' := by
  unfold PageF at h ⊢
  by_cases h7 : k = 3
  · rw [if_pos h7] at h ⊢
    obtain ⟨b, h1, h2, h3⟩ := h
    exact ⟨b, h1, BoxN.grown h2 hg (by simp), h3.kept hg (by simp)⟩
  rw [if_neg h7] at h ⊢
  by_cases h8 : k = 4
  · rw [if_pos h8] at h ⊢; exact OwnK.kept h hg (fun g h => by cases h)
  rw [if_neg h8] at h ⊢
  exact h
set_option maxRecDepth 100000 in
set_option maxHeartbeats 4000000 in
theorem page_any (key : List UInt8) (nv : Value) (l : List VNote) (ls : List Bytes) (id : Int) (w : World) (h : RowsAt noteK w.heap.size w nv l) (hl : l.length ≤ 1000) (hk : key.length ≤ 1000000) (hsl : ls.length = 100) (hle : ∀ x ∈ ls, x.length = 32) (h0 : 0 ≤ id) (h1 : id < 100) (hT : Rounds w) :
    Calls Tryz.prog 47 #[dosV key nv, .agg (arrC ls), .int .i64 id] w fun e w' => ∃ nv' pv, e = .returned (pageV id nv' (saltB key id) pv) ∧ OwnK noteK w.heap.size w' nv' (ofN l id) ∧ OwnS w.heap.size w' pv (proofL ls id.toNat) ∧ Below w.heap.size w w' := by
  obtain ⟨a, c, rfl, hlc, hcm⟩ := h.shape
  have HL := Lib.hid h
  have HT := Lib.hid hT
  have HSl := Lib.hid hsl
  have HLe : Hid (∀ x ∈ ls, x.length ≤ 274877906944) := fun x hx => by rw [hle x hx]; omega
  have HPE : Hid (proofE ls id = (proofL ls id.toNat, 0)) := by show _ = _; unfold proofE; rw [if_pos ⟨h0, by omega⟩]
  have HLl := Lib.hid hl
  have HK := Lib.hid hk
  have HId : Hid (0 ≤ id ∧ id < 100) := ⟨h0, h1⟩
  have HArr : Hid (ArrN (w.heap.size + 1) ls (((w.alloc (.cells #[.string (bs key), .slice a l.length c] 26)).alloc (.cells (arrC ls) 74)).alloc (.cells #[.int .i64 0, .slice none 0 0, .string (⟨#[]⟩ : ByteArray), .slice none 0 0] 39))) := by
    have := box_new (w.alloc (.cells #[.string (bs key), .slice a l.length c] 26)) 74 (arrC ls)
    rw [World.size_alloc] at this
    exact this.alloc _
  have HDos : Hid (DosN w.heap.size key (.slice a l.length c) (((w.alloc (.cells #[.string (bs key), .slice a l.length c] 26)).alloc (.cells (arrC ls) 74)).alloc (.cells #[.int .i64 0, .slice none 0 0, .string (⟨#[]⟩ : ByteArray), .slice none 0 0] 39))) := ((box_new w _ _).alloc _).alloc _
  have HRes : Hid (BoxN (w.heap.size + 2) 39 #[.int .i64 0, .slice none 0 0, .string (⟨#[]⟩ : ByteArray), .slice none 0 0] (((w.alloc (.cells #[.string (bs key), .slice a l.length c] 26)).alloc (.cells (arrC ls) 74)).alloc (.cells #[.int .i64 0, .slice none 0 0, .string (⟨#[]⟩ : ByteArray), .slice none 0 0] 39))) := by
    have := box_new ((w.alloc (.cells #[.string (bs key), .slice a l.length c] 26)).alloc (.cells (arrC ls) 74)) 39 #[.int .i64 0, .slice none 0 0, .string (⟨#[]⟩ : ByteArray), .slice none 0 0]
    rw [World.size_alloc, World.size_alloc] at this
    exact this
  have HB0 : Hid (Below w.heap.size w (((w.alloc (.cells #[.string (bs key), .slice a l.length c] 26)).alloc (.cells (arrC ls) 74)).alloc (.cells #[.int .i64 0, .slice none 0 0, .string (⟨#[]⟩ : ByteArray), .slice none 0 0] 39))) := (((Below.refl _ _).alloc (Nat.le_refl _) _).alloc (by simp) _).alloc (by simp; omega) _
  have HSz : Hid ((Tryz.prog.info? 74).map (·.size) = some (arrC ls).size) := by show _ = _; rw [arrC_size, hsl]; kernel_rfl
  have HOne : Hid ((arrC ls).all (·.oneCell') = true) := arrC_one _
  clear h hT hl hk hle hsl h0 h1 hlc hcm
  generalize hn : l.length = n at *
  have HN := Lib.hid hn
  clear hn
  go_enter Tryz.func47, Tryz.ntmps47
  go_wp2_with fail
  generalize (((w.alloc (.cells #[.string (bs key), .slice a n c] 26)).alloc (.cells (arrC ls) 74)).alloc (.cells #[.int .i64 0, .slice none 0 0, .string (⟨#[]⟩ : ByteArray), .slice none 0 0] 39)) = W0 at *
  have HP := Lib.hid (proof_any _ ls id W0 (ArrN.strs HArr.out (BoxN.lt HArr.out) (by rw [HSl.out]; omega)) (by rw [HSl.out]; omega) HLe.out (HT.out.below HB0.out (Nat.le_refl _)))
  rw [HSl.out] at HP
  refine HP.out.mono ?_
  rintro e w1 ⟨vp, rfl, hop, hb⟩
  rw [HPE.out] at hop ⊢
  have hop : OwnS W0.heap.size w1 vp (proofL ls id.toNat) := hop
  have HB1 := Lib.hid (HB0.out.trans (hb.mono HB0.out.size))
  have HD1 : Hid (DosN w.heap.size key (.slice a n c) w1) := BoxN.below HDos.out hb (BoxN.lt HDos.out)
  have HR1 := Lib.hid (BoxN.below HRes.out hb (BoxN.lt HRes.out))
  have hW0 : w.heap.size + 2 < W0.heap.size := BoxN.lt HRes.out
  obtain ⟨pa, pc, hvp, _, _⟩ : ∃ a c, vp = .slice a (proofL ls id.toNat).length c ∧ (proofL ls id.toNat).length ≤ c ∧ c ≤ maxLen := by
    rcases hop.2 with ⟨rfl, h0⟩ | ⟨g, cap, cur, rfl, _, _, h1, h2, _⟩
    · exact ⟨none, 0, by rw [h0], by omega, Nat.zero_le _⟩
    · exact ⟨_, cap, rfl, h1, h2⟩
  subst hvp
  have HOp := Lib.hid hop
  have hzz := hb.size
  clear hb hop HP HArr
  generalize (proofL ls id.toNat).length = pn at *
  have HQ : Hid (∀ W, w1.grownBy W none → W.cell? ⟨w.heap.size, 0, none⟩ = some (.string (bs key)) ∧ W.cell? ⟨w.heap.size, 1, none⟩ = some (.slice a n c)) := fun W hW =>
    have hd := BoxN.grown HD1.out hW (by simp)
    ⟨DosN.c0 hd, DosN.c1 hd⟩
  have HB : Hid (∀ W, w1.grownBy W none → Below w.heap.size w W) := fun W hW => HB1.out.trans ((grown_below hW).mono HB1.out.size)
  obtain ⟨S, hS⟩ : ∃ S, S = saltB key id := ⟨_, rfl⟩
  have HS := Lib.hid hS
  clear hS
  go_wp2
  refine wp_region_calm ⟨[3, 4, 8], PageF w1.heap.size key (.slice a n c) l id S, fun _ => [], 99, none, 11⟩ (by kernel_rfl) (by kernel_rfl) (by kernel_rfl) (fun g h => by cases h) (fun k hk v W W' c h hg hc => ?_) ?_
  · cases c with
    | none => exact pageF_kept h hg
    | some g => obtain ⟨_, _, i, j, u, hd, _⟩ := hc g rfl; simp at hd
  iterate 3 (refine calm_quiet (v := ?_) (by rfl) (by rfl) (fun W hW hD => ?_) ?_; rotate_left; (· (obtain ⟨z0, z1⟩ := HQ.out W hW; clear hD hW; go_simp; try with_reducible rfl)); simp only [Act.put, List.setIfInBounds_toArray, List.set_cons_zero, List.set_cons_succ, Nat.reduceAdd, Nat.zero_add])
  refine calm_makes (by rfl) (by rfl) (fun W hW hD Kc hK => ?_) (fun v18 => ?_)
  · refine wp_of_call (f := 68) (args := #[dosV key (.slice a n c), .int .i64 id]) ?_ ((of_any key (.slice a n c) ⟨_, _, _, rfl⟩ id W).mono ?_)
    · obtain ⟨z0, z1⟩ := HQ.out W hW
      clear hD hW hK
      go_simp
    · rintro e w5 ⟨rfl, rfl⟩
      refine ⟨_, rfl, hK _ _ (made_plain ⟨W.heap.size, rfl, BoxN.alloc (box_new W _ _) _, ?_⟩ (((Below.refl _ _).alloc (Nat.le_refl _) _).alloc (by simp) _) rfl)⟩
      have := Boxed.new (W.alloc (.cells #[.string (bs key), .slice a n c] 26)) 3 (.int .i64 id)
      rwa [World.size_alloc] at this
  simp only [Act.put, List.setIfInBounds_toArray, List.set_cons_zero, List.set_cons_succ, Nat.reduceAdd, Nat.zero_add]
  refine calm_makes (by rfl) (by rfl) (fun W hW hD Kc hK => ?_) (fun v19 => ?_)
  · obtain ⟨b, rfl, hd, hi⟩ : ∃ b, v18 = .func (.func 100) #[] #[.pointer (some ⟨b, 0, none⟩), .pointer (some ⟨b + 1, 0, none⟩)] ∧ DosN b key (.slice a n c) W ∧ Boxed W (b + 1) 3 (.int .i64 id) := hD [] 3 (by kernel_rfl) (by kernel_rfl) (by kernel_rfl)
    refine wp_of_call (f := 67) (args := #[.func (.func 100) #[] #[.pointer (some ⟨b, 0, none⟩), .pointer (some ⟨b + 1, 0, none⟩)]]) ?_ ((coll_any b (b + 1) key (.slice a n c) l id W hd hi (HL.out.later (HB.out W hW) (Nat.le_refl _)) (by rw [HN.out]; have := HLl.out; omega)).mono ?_)
    · clear hD hW hK hd hi
      go_simp
    · rintro e w5 ⟨v, rfl, hown, hb5⟩
      have hz := hW.size
      exact ⟨_, rfl, hK _ _ (made_below (hown.mono hz) hb5 (World.ownsRow.lt hown))⟩
  simp only [Act.put, List.setIfInBounds_toArray, List.set_cons_zero, List.set_cons_succ, Nat.reduceAdd, Nat.zero_add]
  iterate 3 (refine calm_quiet (v := ?_) (by rfl) (by rfl) (fun W hW hD => ?_) ?_; rotate_left; (· (obtain ⟨z0, z1⟩ := HQ.out W hW; clear hD hW; go_simp; try with_reducible rfl)); simp only [Act.put, List.setIfInBounds_toArray, List.set_cons_zero, List.set_cons_succ, Nat.reduceAdd, Nat.zero_add])
  refine calm_makes (by rfl) (by rfl) (fun W hW hD Kc hK => ?_) (fun v23 => ?_)
  · refine wp_of_call (f := 40) (args := #[.string (bs key), .int .i64 id]) ?_ ((salt_any key id W (by have := HId.out; unfold EncZ; omega) HK.out (HT.out.below (HB.out W hW) (Nat.le_refl _))).mono ?_)
    · clear hD hW hK
      go_simp
    · rintro e w5 ⟨rfl, hb5⟩
      exact ⟨_, rfl, hK _ _ (made_plain (by show _ = _; rw [HS.out]; rfl) hb5 rfl)⟩
  simp only [Act.put, List.setIfInBounds_toArray, List.set_cons_zero, List.set_cons_succ, Nat.reduceAdd, Nat.zero_add]
  iterate 1 (refine calm_quiet (v := ?_) (by rfl) (by rfl) (fun W hW hD => ?_) ?_; rotate_left; (· (obtain ⟨z0, z1⟩ := HQ.out W hW; clear hD hW; go_simp; try with_reducible rfl)); simp only [Act.put, List.setIfInBounds_toArray, List.set_cons_zero, List.set_cons_succ, Nat.reduceAdd, Nat.zero_add])
  refine calm_quiet (v := .agg #[.int .i64 id, v19, .string (bs S), .slice pa pn pc]) (by rfl) (by rfl) (fun W hW hD => ?_) ?_
  · obtain rfl : v23 = .string (bs S) := hD [] 8 (by kernel_rfl) (by kernel_rfl) (by kernel_rfl)
    have hown : OwnK noteK w1.heap.size W v19 (ofN l id) := hD [] 4 (by kernel_rfl) (by kernel_rfl) (by kernel_rfl)
    obtain ⟨xa, xc, rfl, _, _⟩ := hown.shape
    clear hD hW hown
    go_simp
  simp only [Act.put, List.setIfInBounds_toArray, List.set_cons_zero, List.set_cons_succ, Nat.reduceAdd, Nat.zero_add]
  refine calm_tail (by rfl) fun W hW hF => ?_
  have hown : OwnK noteK w1.heap.size W v19 (ofN l id) := hF 4 (by kernel_rfl) (by kernel_rfl)
  obtain ⟨xa, xc, hv19, _, _⟩ := hown.shape
  have hbW := HB.out W hW
  have hr := BoxN.grown HR1.out hW (by simp)
  have hpo := ownS_kept HOp.out hW (fun g h => by cases h)
  have hz1 := hW.size
  subst hv19
  have z0 := BoxN.cell hr 0 _ rfl
  have z1 := BoxN.cell hr 1 _ rfl
  have z2 := BoxN.cell hr 2 _ rfl
  have z3 := BoxN.cell hr 3 _ rfl
  have zf := BoxN.frozen hr
  generalize (ofN l id).length = xn at *
  have HE := Lib.hid (BoxN.set4 hr (.int .i64 id) (.slice xa xn xc) (.string (bs S)) (.slice pa pn pc))
  have HOn := Lib.hid ((((hown.setOther (g := w.heap.size + 2) (by omega) 0 (.int .i64 id)).setOther (g := w.heap.size + 2) (by omega) 1 (.slice xa xn xc)).setOther (g := w.heap.size + 2) (by omega) 2 (.string (bs S))).setOther (g := w.heap.size + 2) (by omega) 3 (.slice pa pn pc))
  have HOq := Lib.hid (ownS_setOther (ownS_setOther (ownS_setOther (ownS_setOther hpo (g := w.heap.size + 2) (by omega) 0 (.int .i64 id)) (g := w.heap.size + 2) (by omega) 1 (.slice xa xn xc)) (g := w.heap.size + 2) (by omega) 2 (.string (bs S))) (g := w.heap.size + 2) (by omega) 3 (.slice pa pn pc))
  have HBf := Lib.hid (below_set4 hbW (g := w.heap.size + 2) (by omega) (.int .i64 id) (.slice xa xn xc) (.string (bs S)) (.slice pa pn pc))
  clear hF hW hown hr hpo hbW
  go_wp2
  have hE := HE.out
  have hSe : S = saltB key id := HS.out
  subst hSe
  exact bodyPost_ret (v := pageV id (.slice xa xn xc) (saltB key id) (.slice pa pn pc)) (by simp [results, Tryz.results47, go_sem, BoxN.cell hE 0 _ rfl, BoxN.cell hE 1 _ rfl, BoxN.cell hE 2 _ rfl, BoxN.cell hE 3 _ rfl]) rfl ⟨_, _, rfl, HOn.out.mono (by omega), OwnS.mono HOq.out (by omega), HBf.out⟩
end Go.Proofs.YteicimmdcdjagaaGreatDoor
