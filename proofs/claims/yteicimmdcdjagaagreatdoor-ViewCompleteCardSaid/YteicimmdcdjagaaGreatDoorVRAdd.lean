import Derived.Test.YteicimmdcdjagaaGreatDoorVAddW
set_option linter.unusedVariables false
set_option linter.unusedSimpArgs false

/- The reference's Add. -/
set_option linter.unusedVariables false
set_option linter.unusedSimpArgs false
namespace Go.Proofs.YteicimmdcdjagaaGreatDoor
open Go.RowKit Go.Shelf

theorem rowN_lit' (W : World) (x : VNote) (B : Nat) (hB : B = W.heap.size) : RowsAt noteK (W.alloc (.cells (noteR x) 48)).heap.size (W.alloc (.cells (noteR x) 48)) (.slice (some ⟨B, 0, none⟩) 1 1) [x] := by
  subst hB
  exact (ownK_lit noteOk W [x] _ rfl (by simp)).rows noteOk
theorem grown_wideK {W W' : World} (h : W.grownBy W' none) (c : Option Nat) : W.grownBy W' c := ⟨h.os, h.tape, h.output, h.size, fun k hk _ => h.block k hk (by simp)⟩
theorem RowsAt.drop2 {α : Type} {K : SK α} {B : Nat} {w : World} {a : Option Addr} {n c : Nat} {l : List α} (h : RowsAt K B w (.slice a n c) l) (k : Nat) (hk : k ≤ l.length) : RowsAt K B w (.slice (if c = k then a else a.map (fun q => q.add (k * K.size))) (n - k) (c - k)) (l.drop k) := by
  obtain ⟨a', c0, he, h1, h2, h3⟩ := h
  obtain ⟨e1, e2, e3⟩ := Value.slice.inj he
  subst e1 e2 e3
  refine ⟨_, c - k, by rw [List.length_drop], by rw [List.length_drop]; omega, by omega, fun hp => ?_⟩
  rw [List.length_drop] at hp
  obtain ⟨b, off, rfl, hb, hcc⟩ := h3 (by omega)
  rw [if_neg (by omega)]
  refine ⟨b, off + k * K.size, by rw [Option.map_some, Addr.add_lit], hb, fun i x hi => ?_⟩
  rw [List.getElem?_drop] at hi
  have := hcc (k + i) x hi
  rwa [Nat.add_mul, ← Nat.add_assoc] at this
/-- What is known between two steps of the reference's Add. -/
def RAddR (w : World) (G : Nat) (key : List UInt8) (dv : Value) (x : VNote) (v : Value) (l2 : List VNote) (W : World) : Prop :=
  BoxN G 26 #[.string (bs key), v] W ∧ OwnK noteK (G + 1) W v l2 ∧ DosN w.heap.size key dv W ∧ NoteN (w.heap.size + 1) x W ∧ BoxN (w.heap.size + 2) 26 #[.string (⟨#[]⟩ : ByteArray), .slice none 0 0] W ∧ Below w.heap.size w W ∧ G + 1 ≤ W.heap.size
theorem raddR_alloc {w W : World} {G : Nat} {key : List UInt8} {dv v : Value} {x : VNote} {l2 : List VNote} (h : RAddR w G key dv x v l2 W) (y : VNote) : RAddR w G key dv x v l2 (W.alloc (.cells (noteR y) 48)) :=
  ⟨h.1.alloc _, h.2.1.kept (World.grownBy_alloc W _ none) (fun g h => by cases h), BoxN.alloc h.2.2.1 _, BoxN.alloc h.2.2.2.1 _, BoxN.alloc h.2.2.2.2.1 _, h.2.2.2.2.2.1.alloc h.2.2.2.2.2.1.size _, Nat.le_trans h.2.2.2.2.2.2 (by simp)⟩
/-- A longer row has come of the row, and does not stand in the box yet. -/
def RAddS (w : World) (G : Nat) (key : List UInt8) (dv : Value) (x : VNote) (v v' : Value) (l2 : List VNote) (W : World) : Prop :=
  BoxN G 26 #[.string (bs key), v] W ∧ OwnK noteK (G + 1) W v' l2 ∧ DosN w.heap.size key dv W ∧ NoteN (w.heap.size + 1) x W ∧ BoxN (w.heap.size + 2) 26 #[.string (⟨#[]⟩ : ByteArray), .slice none 0 0] W ∧ Below w.heap.size w W ∧ G + 1 ≤ W.heap.size ∧ w.heap.size + 2 < G
theorem raddR_grown {w W W' : World} {G : Nat} {key : List UInt8} {dv v v' : Value} {x : VNote} {l2 l3 : List VNote} (h : RAddR w G key dv x v l2 W) (hG : w.heap.size + 2 < G) (hg : W.grownBy W' v.ownBlock) (ho : OwnK noteK (G + 1) W' v' l3) : RAddS w G key dv x v v' l3 W' := by
  have hlt : ∀ k, v.ownBlock = some k → G + 1 ≤ k := fun k hk => (World.ownsRow.lt h.2.1 k hk).1
  exact ⟨BoxN.grown h.1 hg (fun e => by have := hlt _ e; omega), ho, BoxN.grown h.2.2.1 hg (fun e => by have := hlt _ e; omega), BoxN.grown h.2.2.2.1 hg (fun e => by have := hlt _ e; omega), BoxN.grown h.2.2.2.2.1 hg (fun e => by have := hlt _ e; omega), h.2.2.2.2.2.1.grown hg h.2.2.2.2.2.1.size (fun k hk => by have := hlt k hk; omega), Nat.le_trans h.2.2.2.2.2.2 hg.size, hG⟩
theorem raddR_set {w W : World} {G : Nat} {key : List UInt8} {dv v v' : Value} {x : VNote} {l2 : List VNote} (h : RAddS w G key dv x v v' l2 W) : RAddR w G key dv x v' l2 (W.setCell ⟨G, 1, none⟩ v') := by
  obtain ⟨h1, h2, h3, h4, h5, h6, h7, h8⟩ := h
  exact ⟨h1.set 1 v', h2.setOther (by omega) 1 v', BoxN.other h3 (by omega), BoxN.other h4 (by omega), BoxN.other h5 (by omega), h6.setCell (p := ⟨G, 1, none⟩) (by show _ ≤ G; omega) _, by rw [show (W.setCell ⟨G, 1, none⟩ v').heap.size = W.heap.size from by simp [World.setCell]]; exact h7⟩
set_option maxRecDepth 100000 in
set_option maxHeartbeats 8000000 in
theorem refAdd_any (key : List UInt8) (nv : Value) (l : List VNote) (x : VNote) (w : World) (h : RowsAt noteK w.heap.size w nv l) (hl : l.length ≤ 1000000) :
    Calls Tryz.prog 36 #[dosV key nv, noteV x] w fun e w' => ∃ nv', e = .returned (.tuple #[dosV (addN ⟨key, l⟩ x).1.key nv', .int .i64 (addN ⟨key, l⟩ x).2]) ∧ OwnK noteK w.heap.size w' nv' (addN ⟨key, l⟩ x).1.notes ∧ Below w.heap.size w w' := by
  obtain ⟨a, c, rfl, hlc, hcm⟩ := h.shape
  unfold maxLen at hcm
  have hb0 : Below w.heap.size w (((w.alloc (.cells #[.string (bs key), .slice a l.length c] 26)).alloc (.cells (noteR x) 48)).alloc (.cells #[.string (⟨#[]⟩ : ByteArray), .slice none 0 0] 26)) := (((Below.refl _ _).alloc (Nat.le_refl _) _).alloc (by simp) _).alloc (by simp; omega) _
  have HV := Lib.hid (refDos_any key (.slice a l.length c) l _ (h.later hb0 (Nat.le_refl _)) hl)
  have HB0 := Lib.hid hb0
  have HL := Lib.hid h
  have HLl := Lib.hid hl
  have HDos : Hid (DosN w.heap.size key (.slice a l.length c) (((w.alloc (.cells #[.string (bs key), .slice a l.length c] 26)).alloc (.cells (noteR x) 48)).alloc (.cells #[.string (⟨#[]⟩ : ByteArray), .slice none 0 0] 26))) := ((box_new w _ _).alloc _).alloc _
  have HNo : Hid (NoteN (w.heap.size + 1) x (((w.alloc (.cells #[.string (bs key), .slice a l.length c] 26)).alloc (.cells (noteR x) 48)).alloc (.cells #[.string (⟨#[]⟩ : ByteArray), .slice none 0 0] 26))) := by
    have := box_new (w.alloc (.cells #[.string (bs key), .slice a l.length c] 26)) 48 (noteR x)
    rw [World.size_alloc] at this
    exact this.alloc _
  have HRes : Hid (BoxN (w.heap.size + 2) 26 #[.string (⟨#[]⟩ : ByteArray), .slice none 0 0] (((w.alloc (.cells #[.string (bs key), .slice a l.length c] 26)).alloc (.cells (noteR x) 48)).alloc (.cells #[.string (⟨#[]⟩ : ByteArray), .slice none 0 0] 26))) := by
    have := box_new ((w.alloc (.cells #[.string (bs key), .slice a l.length c] 26)).alloc (.cells (noteR x) 48)) 26 #[.string (⟨#[]⟩ : ByteArray), .slice none 0 0]
    rw [World.size_alloc, World.size_alloc] at this
    exact this
  clear h hb0 hl
  generalize hn : l.length = n at *
  have HN := Lib.hid hn
  clear hn
  have q0 := DosN.c0 HDos.out
  have q1 := DosN.c1 HDos.out
  go_enter Tryz.func36, Tryz.ntmps36
  go_wp2_with fail
  clear q0 q1
  generalize (((w.alloc (.cells #[.string (bs key), .slice a n c] 26)).alloc (.cells (noteR x) 48)).alloc (.cells #[.string (⟨#[]⟩ : ByteArray), .slice none 0 0] 26)) = W0 at *
  simp only [Nat.add_assoc, Nat.reduceAdd]
  refine HV.out.mono ?_
  rintro e w1 ⟨rfl, hb⟩
  have HD1 : Hid (DosN w.heap.size key (.slice a n c) w1) := BoxN.below HDos.out hb HDos.out.lt
  have HN1 : Hid (NoteN (w.heap.size + 1) x w1) := BoxN.below HNo.out hb HNo.out.lt
  have HR1 := Lib.hid (BoxN.below HRes.out hb HRes.out.lt)
  have HB1 := Lib.hid (HB0.out.trans (hb.mono HB0.out.size))
  have hz1 : w.heap.size + 2 < w1.heap.size := HR1.out.lt
  clear hb HV HDos HRes HNo HB0
  cases hd : dosB ⟨key, l⟩
  · have HE : Hid (addN ⟨key, l⟩ x = (⟨[], []⟩, 400)) := addN_bad hd
    clear hd
    have hr := HR1.out
    have z0 := BoxN.cell hr 0 _ rfl
    have z1 := BoxN.cell hr 1 _ rfl
    have zf := BoxN.frozen hr
    have HZ := Lib.hid (BoxN.set2 hr (.string (⟨#[]⟩ : ByteArray)) (.slice none 0 0))
    have HBf := Lib.hid ((HB1.out.setCell (p := ⟨w.heap.size + 2, 0, none⟩) (by show w.heap.size ≤ w.heap.size + 2; omega) (.string (⟨#[]⟩ : ByteArray))).setCell (p := ⟨w.heap.size + 2, 1, none⟩) (by show w.heap.size ≤ w.heap.size + 2; omega) (.slice none 0 0))
    clear hr
    go_wp2
    have hE := HZ.out
    exact bodyPost_ret (v := .tuple #[dosV [] (.slice none 0 0), .int .i64 400]) (by simp [results, Tryz.results36, go_sem, BoxN.cell hE 0 _ rfl, BoxN.cell hE 1 _ rfl]; try rfl) rfl ⟨_, by rw [HE.out]; try rfl, by rw [HE.out]; exact OwnK.nil _ _, HBf.out⟩
  obtain ⟨d1, d2, d3, d4⟩ := dosB_ok hd
  have HD := Lib.hid hd
  have HLn : Hid (l.length ≤ 60) := d4
  have hn60 : n ≤ 60 := by rw [← HN.out]; exact d4
  obtain ⟨pl, hpl⟩ : ∃ p, p = placeN x l := ⟨_, rfl⟩
  have HPl := Lib.hid hpl
  have hP : pl ≤ n := by rw [hpl, ← HN.out]; exact placeN_le _ _
  clear hd d1 d2 d3 d4 hpl
  go_wp2_with fail
  go_loopw [6] (fun i wr => ∃ p : Nat, i = .int .i64 p ∧ p ≤ pl ∧ Hid (Below w1.heap.size w1 wr)) (fun i _ => pl - (intOf i).toNat)
  case atStart => exact ⟨0, rfl, Nat.zero_le _, Lib.hid (Below.refl _ _)⟩
  case round =>
    obtain ⟨p, rfl, hp, HB⟩ := hrel
    have HBw := Lib.hid (HB1.out.trans (HB.out.mono HB1.out.size))
    have HDr : Hid (DosN w.heap.size key (.slice a n c) wr) := BoxN.below HD1.out HB.out HD1.out.lt
    have HNr : Hid (NoteN (w.heap.size + 1) x wr) := BoxN.below HN1.out HB.out HN1.out.lt
    have HRr := Lib.hid (BoxN.below HR1.out HB.out HR1.out.lt)
    have hzr := HB.out.size
    have HQ : Hid (∀ W, wr.grownBy W none → (W.cell? ⟨w.heap.size, 0, none⟩ = some (.string (bs key)) ∧ W.cell? ⟨w.heap.size, 1, none⟩ = some (.slice a n c)) ∧ W.cell? ⟨w.heap.size + 1, 0, none⟩ = some (.int .i64 x.unit) ∧ W.cell? ⟨w.heap.size + 1, 1, none⟩ = some (.int .i64 x.day) ∧ W.cell? ⟨w.heap.size + 1, 2, none⟩ = some (.int .i64 x.kind) ∧ W.cell? ⟨w.heap.size + 1, 3, none⟩ = some (.string (bs x.text))) := fun W hW =>
      have hd := BoxN.grown HDr.out hW (by simp)
      ⟨⟨DosN.c0 hd, DosN.c1 hd⟩, NoteN.cells (BoxN.grown HNr.out hW (by simp))⟩
    by_cases hpn : p < n
    · have dn : (p : Int) < (n : Int) := by omega
      have dn' : decide (p < n) = true := decide_eq_true hpn
      have d0 : 0 ≤ (p : Int) := by omega
      obtain ⟨y, hy⟩ : ∃ y, y = l.getD p default := ⟨_, rfl⟩
      have hget : l[p]? = some y := by rw [hy, List.getD_eq_getElem?_getD, List.getElem?_eq_getElem (by rw [HN.out]; omega)]; rfl
      obtain ⟨gb, off, hae, hb, hat⟩ := notes_at (HL.out.later HBw.out (Nat.le_refl _)) p y hget
      subst hae
      have HQ2 : Hid (∀ W, wr.grownBy W none → NoteAt W gb (off + p * 4) y ∧ (W.cell? ⟨w.heap.size, 0, none⟩ = some (.string (bs key)) ∧ W.cell? ⟨w.heap.size, 1, none⟩ = some (.slice (some ⟨gb, off, none⟩) n c)) ∧ W.cell? ⟨w.heap.size + 1, 0, none⟩ = some (.int .i64 x.unit) ∧ W.cell? ⟨w.heap.size + 1, 1, none⟩ = some (.int .i64 x.day) ∧ W.cell? ⟨w.heap.size + 1, 2, none⟩ = some (.int .i64 x.kind) ∧ W.cell? ⟨w.heap.size + 1, 3, none⟩ = some (.string (bs x.text))) := fun W hW =>
        ⟨by
          obtain ⟨p0, p1, p2, p3⟩ := hat
          exact ⟨hW.cell p0 (by simp), hW.cell p1 (by simp), hW.cell p2 (by simp), hW.cell p3 (by simp)⟩, HQ.out W hW⟩
      clear hget hat
      by_cases hpp : p < pl
      · have HLt : Hid (lessN y x = true) := by show _ = _; rw [lessN_eq, hy]; rw [HPl.out] at hpp; exact placeN_before hpp
        clear hy
        go_wp2
        refine wp_region_calm ⟨[12], fun k v _ => v = .bool true, fun _ => [], 99, none, 1000⟩ (by kernel_rfl) (by kernel_rfl) (by kernel_rfl) (fun g h => by cases h) (fun k hk v W W' c h hg hc => h) ?_
        iterate 10 (refine calm_quiet (v := ?_) (by rfl) (by rfl) (fun W hW hD => ?_) ?_; rotate_left; (· (obtain ⟨⟨z0, z1⟩, y0, y1, y2, y3⟩ := HQ.out W hW; clear hD hW; go_simp; try with_reducible rfl)); simp only [Act.put, List.setIfInBounds_toArray, List.set_cons_zero, List.set_cons_succ, Nat.reduceAdd, Nat.zero_add])
        iterate 2 (refine calm_quiet (v := ?_) (by rfl) (by rfl) (fun W hW hD => ?_) ?_; rotate_left; (· (obtain ⟨⟨x0, x1, x2, x3⟩, ⟨z0, z1⟩, y0, y1, y2, y3⟩ := HQ2.out W hW; clear hD hW; go_simp; try with_reducible rfl)); simp only [Act.put, List.setIfInBounds_toArray, List.set_cons_zero, List.set_cons_succ, Nat.reduceAdd, Nat.zero_add])
        refine calm_makes (by rfl) (by rfl) (fun W hW hD Kc hK => ?_) (fun v24 => ?_)
        · refine wp_of_call (f := 66) ?_ ((refLess_any y x W).mono ?_)
          · clear hD hW hK
            go_simp
          · rintro e w5 ⟨rfl, hb5⟩
            exact ⟨_, rfl, hK _ _ (made_plain (by show _ = _; rw [HLt.out]; rfl) hb5 rfl)⟩
        simp only [Act.put, List.setIfInBounds_toArray, List.set_cons_zero, List.set_cons_succ, Nat.reduceAdd, Nat.zero_add]
        refine calm_quiet (v := .bool true) (by rfl) (by rfl) (fun W hW hD => ?_) ?_
        · obtain rfl : v24 = .bool true := hD [] 12 (by kernel_rfl) (by kernel_rfl) (by kernel_rfl)
          clear hD hW
          go_simp
        simp only [Act.put, List.setIfInBounds_toArray, List.set_cons_zero, List.set_cons_succ, Nat.reduceAdd, Nat.zero_add]
        refine calm_nil fun W hW hF => ?_
        have HBf := Lib.hid (HB.out.trans ((grown_below hW).mono HB.out.size))
        clear hF hW HQ HQ2
        go_wp2
        go_roundw
        case rel => exact ⟨p + 1, by go_num, by omega, HBf⟩
        case measure => simp [intOf]; omega
      · obtain rfl : p = pl := by omega
        have HLt : Hid (lessN y x = false) := by show _ = _; rw [lessN_eq, hy]; rw [HPl.out] at hpn ⊢; exact placeN_at (by rw [HN.out]; exact hpn)
        clear hy
        go_wp2
        refine wp_region_calm ⟨[12], fun k v _ => v = .bool false, fun _ => [], 99, none, 1000⟩ (by kernel_rfl) (by kernel_rfl) (by kernel_rfl) (fun g h => by cases h) (fun k hk v W W' c h hg hc => h) ?_
        iterate 10 (refine calm_quiet (v := ?_) (by rfl) (by rfl) (fun W hW hD => ?_) ?_; rotate_left; (· (obtain ⟨⟨z0, z1⟩, y0, y1, y2, y3⟩ := HQ.out W hW; clear hD hW; go_simp; try with_reducible rfl)); simp only [Act.put, List.setIfInBounds_toArray, List.set_cons_zero, List.set_cons_succ, Nat.reduceAdd, Nat.zero_add])
        iterate 2 (refine calm_quiet (v := ?_) (by rfl) (by rfl) (fun W hW hD => ?_) ?_; rotate_left; (· (obtain ⟨⟨x0, x1, x2, x3⟩, ⟨z0, z1⟩, y0, y1, y2, y3⟩ := HQ2.out W hW; clear hD hW; go_simp; try with_reducible rfl)); simp only [Act.put, List.setIfInBounds_toArray, List.set_cons_zero, List.set_cons_succ, Nat.reduceAdd, Nat.zero_add])
        refine calm_makes (by rfl) (by rfl) (fun W hW hD Kc hK => ?_) (fun v24 => ?_)
        · refine wp_of_call (f := 66) ?_ ((refLess_any y x W).mono ?_)
          · clear hD hW hK
            go_simp
          · rintro e w5 ⟨rfl, hb5⟩
            exact ⟨_, rfl, hK _ _ (made_plain (by show _ = _; rw [HLt.out]; rfl) hb5 rfl)⟩
        simp only [Act.put, List.setIfInBounds_toArray, List.set_cons_zero, List.set_cons_succ, Nat.reduceAdd, Nat.zero_add]
        refine calm_quiet (v := .bool false) (by rfl) (by rfl) (fun W hW hD => ?_) ?_
        · obtain rfl : v24 = .bool false := hD [] 12 (by kernel_rfl) (by kernel_rfl) (by kernel_rfl)
          clear hD hW
          go_simp
        simp only [Act.put, List.setIfInBounds_toArray, List.set_cons_zero, List.set_cons_succ, Nat.reduceAdd, Nat.zero_add]
        refine calm_nil fun W hW hF => ?_
        have HBf := Lib.hid (HBw.out.trans ((grown_below hW).mono HBw.out.size))
        have HDf : Hid (DosN w.heap.size key (.slice (some ⟨gb, off, none⟩) n c) W) := BoxN.grown HDr.out hW (by simp)
        have HNf : Hid (NoteN (w.heap.size + 1) x W) := BoxN.grown HNr.out hW (by simp)
        have HRf := Lib.hid (BoxN.grown HRr.out hW (by simp))
        clear hF hW HQ HQ2 HDr HNr HRr HB HBw dn dn' hp hpp hpn
        obtain ⟨G, hG⟩ : ∃ G, G = W.heap.size := ⟨_, rfl⟩
        have hG2 : w.heap.size + 2 < G := by rw [hG]; exact HRf.out.lt
        have HBoxG : Hid (BoxN G 26 #[.string (bs key), .slice none 0 0] (W.alloc (.cells #[.string (bs key), .slice none 0 0] 26))) := by show BoxN _ _ _ _; rw [hG]; exact box_new W _ _
        have HDg : Hid (DosN w.heap.size key (.slice (some ⟨gb, off, none⟩) n c) (W.alloc (.cells #[.string (bs key), .slice none 0 0] 26))) := BoxN.alloc HDf.out _
        have HNg : Hid (NoteN (w.heap.size + 1) x (W.alloc (.cells #[.string (bs key), .slice none 0 0] 26))) := BoxN.alloc HNf.out _
        have HRg := Lib.hid (HRf.out.alloc (.cells #[.string (bs key), .slice none 0 0] 26))
        have HBg := Lib.hid (HBf.out.alloc HBf.out.size (.cells #[.string (bs key), .slice none 0 0] 26))
        have hzg : (W.alloc (.cells #[.string (bs key), .slice none 0 0] 26)).heap.size = G + 1 := by simp [hG]
        have q0 := DosN.c0 HDf.out
        have q1 := DosN.c1 HDf.out
        go_wp2
        clear q0 q1
        rw [← hG]
        generalize (W.alloc (.cells #[.string (bs key), .slice none 0 0] 26)) = W5 at *
        clear hG HDf HNf HRf HBf
        have HQ5 : Hid (∀ W, W5.grownBy W none → (W.cell? ⟨w.heap.size, 0, none⟩ = some (.string (bs key)) ∧ W.cell? ⟨w.heap.size, 1, none⟩ = some (.slice (some ⟨gb, off, none⟩) n c)) ∧ W.cell? ⟨G, 0, none⟩ = some (.string (bs key)) ∧ W.cell? ⟨G, 1, none⟩ = some (.slice none 0 0)) := fun W hW =>
          have hd := BoxN.grown HDg.out hW (by simp)
          have hg := BoxN.grown HBoxG.out hW (by simp)
          ⟨⟨DosN.c0 hd, DosN.c1 hd⟩, BoxN.cell hg 0 _ rfl, BoxN.cell hg 1 _ rfl⟩
        have hpc : (p : Int) ≤ (c : Int) := by omega
        have hpc0 : 0 ≤ (p : Int) := by omega
        have hpn : (p : Int) ≤ (n : Int) := by omega
        have HTk : Hid ((l.take p).length = p) := by show _ = _; rw [List.length_take, HN.out]; omega
        have HRw : Hid (∀ W, W5.grownBy W none → RowsAt noteK w.heap.size W (.slice (some ⟨gb, off, none⟩) p c) (l.take p)) := fun W hW => RowsAt.take (HL.out.below (HBg.out.trans ((grown_below hW).mono HBg.out.size)) (Nat.le_refl _)) p c (by rw [HN.out]; omega) (by omega) (by unfold maxLen; omega)
        refine wp_region_calm ⟨[6], fun k v W => OwnK noteK (G + 1) W v (l.take p), fun _ => [], 99, none, 8⟩ (by kernel_rfl) (by kernel_rfl) (by kernel_rfl) (fun g h => by cases h) (fun k hk v W W' c h hg hc => ?_) ?_
        · cases c with
          | none => exact OwnK.kept h hg (fun g h => by cases h)
          | some g => obtain ⟨_, _, i, j, u, hd, _⟩ := hc g rfl; simp at hd
        iterate 6 (refine calm_quiet (v := ?_) (by rfl) (by rfl) (fun W hW hD => ?_) ?_; rotate_left; (· (obtain ⟨⟨z0, z1⟩, y0, y1⟩ := HQ5.out W hW; clear hD hW; go_simp; try with_reducible rfl)); simp only [Act.put, List.setIfInBounds_toArray, List.set_cons_zero, List.set_cons_succ, Nat.reduceAdd, Nat.zero_add])
        refine calm_makes (by rfl) (by rfl) (fun W hW hD Kc hK => ?_) (fun v37 => ?_)
        · have hWs := hW.size
          exact wp_append_K noteOk (.tmp 32) (.tmp 36) rfl (G + 1) _ (.slice none 0 0) (.slice (some ⟨gb, off, none⟩) p c) [] (l.take p) rfl rfl (OwnK.nil _ _) (HRw.out W hW) (by rw [HTk.out]; simp; omega) (by omega) (fun v' w' h1 h2 h3 => hK _ _ (made_below h1 (grown_below h2) (fun g hg => ⟨(by
            have hg' : v'.ownBlock = some g := hg
            rcases h3 with h3 | h3
            · rw [h3] at hg'; cases hg'
            · rw [h3] at hg'; cases hg'; exact Nat.le_refl _), (World.ownsRow.lt h1 g hg).2⟩)))
        simp only [Act.put, List.setIfInBounds_toArray, List.set_cons_zero, List.set_cons_succ, Nat.reduceAdd, Nat.zero_add]
        iterate 1 (refine calm_quiet (v := ?_) (by rfl) (by rfl) (fun W hW hD => ?_) ?_; rotate_left; (· (clear hD hW; go_simp; try with_reducible rfl)); simp only [Act.put, List.setIfInBounds_toArray, List.set_cons_zero, List.set_cons_succ, Nat.reduceAdd, Nat.zero_add])
        refine calm_tail (by rfl) fun W hW hF => ?_
        have h6 : OwnK noteK (G + 1) W v37 (l.take p) := hF 6 (by kernel_rfl) (by kernel_rfl)
        obtain ⟨ra, rc, hv37, hrc1, hrc2⟩ := h6.shape
        subst hv37
        rw [HTk.out] at h6 hrc1 ⊢
        have hgx := BoxN.grown HBoxG.out hW (by simp)
        have hds := BoxN.grown HDg.out hW (by simp)
        have hns := BoxN.grown HNg.out hW (by simp)
        have hrs := BoxN.grown HRg.out hW (by simp)
        have hbs := HBg.out.trans ((grown_below hW).mono HBg.out.size)
        have hzs := hW.size
        have z1 := BoxN.cell hgx 1 _ rfl
        have zf := BoxN.frozen hgx
        have HW6 : Hid (RAddR w G key (.slice (some ⟨gb, off, none⟩) n c) x (.slice ra p rc) (l.take p) (W.setCell ⟨G, 1, none⟩ (.slice ra p rc))) :=
          ⟨hgx.set 1 _, h6.setOther (by omega) 1 _, BoxN.other hds (by omega), BoxN.other hns (by omega), BoxN.other hrs (by omega), hbs.setCell (p := ⟨G, 1, none⟩) (by show _ ≤ G; omega) _, by rw [show (W.setCell ⟨G, 1, none⟩ (.slice ra p rc)).heap.size = W.heap.size from by simp [World.setCell]]; omega⟩
        clear hF hW h6 hgx hds hns hrs hbs hzs HQ5 HRw HBoxG HDg HNg HRg HBg
        unfold maxLen at hrc2
        go_wp2_with (first | (refine wpl_gen (fun W' => RAddR w G key (.slice (some ⟨gb, off, none⟩) n c) x (.slice ra p rc) (l.take p) W') HW6.out ?_; intro W6 hR6; have HR6 := Lib.hid hR6; have o0 := BoxN.cell hR6.1 0 _ rfl; have o1 := BoxN.cell hR6.1 1 _ rfl; obtain ⟨n', n1', n2', n3'⟩ := NoteN.cells hR6.2.2.2.1; have hlG := BoxN.lt hR6.1; clear hR6) | (at_builtin; refine append_K3 noteOk rfl _ _ rfl (G + 1) _ _ _ (l.take p) [x] rfl rfl (raddR_alloc HR6.out x).2.1 (rowN_lit' _ x _ rfl) (by rw [HTk.out]; simp; omega) (raddR_alloc HR6.out x).2.2.2.2.2.2 ?_; intro v' w7 hown' hgrow hblk; obtain ⟨sa, sc, hsh, hsc1, hsc2⟩ := hown'.shape; rw [List.length_append, HTk.out, List.length_singleton] at hsh hsc1; subst hsh; have hR7 := raddR_grown (raddR_alloc HR6.out x) hG2 hgrow hown'; have y1 := BoxN.cell hR7.1 1 _ rfl; have yf := BoxN.frozen hR7.1; have HW8 := Lib.hid (raddR_set hR7); clear o0 o1 n' n1' n2' n3' hlG hgrow hblk hown' hR7))
        clear y1 yf
        generalize (w7.setCell ⟨G, 1, none⟩ (.slice sa (p + 1) sc)) = W8 at *
        obtain ⟨SA, hSA⟩ : ∃ SA : Option Addr, SA = (if c = p then (some ⟨gb, off, none⟩) else ((some ⟨gb, off, none⟩) : Option Addr).map (fun q => q.add (p * 4))) := ⟨_, rfl⟩
        have HSA := Lib.hid hSA
        have HBx8 : Hid (Below w.heap.size w W8) := HW8.out.2.2.2.2.2.1
        have HDr8 : Hid (∀ W, W8.grownBy W none → RowsAt noteK w.heap.size W (.slice SA (n - p) (c - p)) (l.drop p)) := fun W hW => by
          rw [hSA]
          exact RowsAt.drop2 (HL.out.below (HBx8.out.trans ((grown_below hW).mono HBx8.out.size)) (Nat.le_refl _)) p (by rw [HN.out]; omega)
        have HDr9 : Hid (∀ (W : World), Below w.heap.size w W → RowsAt noteK w.heap.size W (.slice SA (n - p) (c - p)) (l.drop p)) := fun W hW => by
          rw [hSA]
          exact RowsAt.drop2 (HL.out.below hW (Nat.le_refl _)) p (by rw [HN.out]; omega)
        clear hSA HDr8
        have HLt8 : Hid (∀ g, (Value.slice sa (p + 1) sc).ownBlock = some g → G + 1 ≤ g ∧ g < W8.heap.size) := World.ownsRow.lt HW8.out.2.1
        have HBl8 : Hid (∀ W, W8.grownBy W (Value.slice sa (p + 1) sc).ownBlock → Below w.heap.size w W) := fun W hW => HBx8.out.grown hW HBx8.out.size (fun k hk => by have := (HLt8.out k hk).1; omega)
        have HQ8 : Hid (∀ W, W8.grownBy W (Value.slice sa (p + 1) sc).ownBlock → (W.cell? ⟨w.heap.size, 0, none⟩ = some (.string (bs key)) ∧ W.cell? ⟨w.heap.size, 1, none⟩ = some (.slice (some ⟨gb, off, none⟩) n c)) ∧ W.cell? ⟨G, 0, none⟩ = some (.string (bs key)) ∧ W.cell? ⟨G, 1, none⟩ = some (.slice sa (p + 1) sc)) := fun W hW =>
          have hd := BoxN.grown HW8.out.2.2.1 hW (fun e => by have := (HLt8.out _ e).1; omega)
          have hg := BoxN.grown HW8.out.1 hW (fun e => by have := (HLt8.out _ e).1; omega)
          ⟨⟨DosN.c0 hd, DosN.c1 hd⟩, BoxN.cell hg 0 _ rfl, BoxN.cell hg 1 _ rfl⟩
        have HTl : Hid ((l.take p ++ [x]).length = p + 1) := by show _ = _; rw [List.length_append, HTk.out, List.length_singleton]
        have HDl : Hid ((l.drop p).length ≤ n) := by show _ ≤ _; rw [List.length_drop, HN.out]; omega
        refine wp_region_calm ⟨[1, 6], fun k v W => if k = 1 then v = .slice sa (p + 1) sc ∧ OwnK noteK (G + 1) W v (l.take p ++ [x]) else OwnK noteK (G + 1) W v ((l.take p ++ [x]) ++ l.drop p), fun k => if k = 6 then [1] else [], 1, (Value.slice sa (p + 1) sc).ownBlock, 8⟩ (by kernel_rfl) (by kernel_rfl) (by kernel_rfl) (fun g h => (HLt8.out g h).2) (fun k hk v W W' c h hg hc => ?_) ?_
        · by_cases h1 : k = 1
          · simp only [h1, if_true] at h ⊢
            exact ⟨h.1, h.2.kept hg fun g hh => (hc g hh).1⟩
          · simp only [h1, if_false] at h ⊢
            exact h.kept hg fun g hh => (hc g hh).1
        iterate 1 (refine calm_quiet (v := ?_) (by rfl) (by rfl) (fun W hW hD => ?_) ?_; rotate_left; (· (clear hD hW; go_simp; try with_reducible rfl)); simp only [Act.put, List.setIfInBounds_toArray, List.set_cons_zero, List.set_cons_succ, Nat.reduceAdd, Nat.zero_add])
        refine calm_makes (by rfl) (by rfl) (fun W hW hD Kc hK => ?_) (fun v46 => ?_)
        · have hWn : W8.grownBy W none := hW
          obtain ⟨_, z0, z1⟩ := HQ8.out W (grown_wideK hWn _)
          refine wp_of_run (v := .slice sa (p + 1) sc) (w' := W) ?_ (hK _ _ ⟨⟨rfl, OwnK.kept HW8.out.2.1 hWn (fun g hg => by cases hg)⟩, ⟨none, World.grownBy.refl _ _, .inl rfl⟩, fun g hg => ⟨Nat.lt_of_lt_of_le (HLt8.out g hg).2 hWn.size, .inr (.inr ⟨rfl, hg⟩)⟩⟩)
          clear hD hW hK hWn
          go_simp
        simp only [Act.put, List.setIfInBounds_toArray, List.set_cons_zero, List.set_cons_succ, Nat.reduceAdd, Nat.zero_add]
        iterate 3 (refine calm_quiet (v := ?_) (by rfl) (by rfl) (fun W hW hD => ?_) ?_; rotate_left; (· (obtain ⟨⟨z0, z1⟩, y0, y1⟩ := HQ8.out W hW; clear hD hW; go_simp; try with_reducible rfl)); simp only [Act.put, List.setIfInBounds_toArray, List.set_cons_zero, List.set_cons_succ, Nat.reduceAdd, Nat.zero_add])
        refine calm_quiet (v := .slice SA (n - p) (c - p)) (by rfl) (by rfl) (fun W hW hD => ?_) ?_
        · clear hD hW
          have hE := HSA.out
          go_simp
          all_goals first | rfl | (rw [hE]; rfl) | (subst hE; simp) | (subst hE; go_simp)
        simp only [Act.put, List.setIfInBounds_toArray, List.set_cons_zero, List.set_cons_succ, Nat.reduceAdd, Nat.zero_add]
        refine calm_makes (by rfl) (by rfl) (fun W hW hD Kc hK => ?_) (fun v51 => ?_)
        · obtain ⟨h46, hrow⟩ : v46 = .slice sa (p + 1) sc ∧ OwnK noteK (G + 1) W v46 (l.take p ++ [x]) := hD [] 1 (by kernel_rfl) (by kernel_rfl) (by kernel_rfl)
          have hWs := hW.size
          have hz8 := HW8.out.2.2.2.2.2.2
          have hlen1 := HTl.out
          have hlen2 := HDl.out
          have hbw := HBl8.out W hW
          subst h46
          exact wp_append_K noteOk (.tmp 46) (.tmp 50) rfl (G + 1) _ (.slice sa (p + 1) sc) (.slice SA (n - p) (c - p)) (l.take p ++ [x]) (l.drop p) rfl rfl hrow (HDr9.out W hbw) (by omega) (by omega) (fun v' w' h1 h2 h3 => hK _ _ (made_grown (j := 1) (u := .slice sa (p + 1) sc) (by kernel_rfl) rfl h1 h2 (fun g hg => ⟨(World.ownsRow.lt h1 g hg).2, grown_own h3 hg⟩)))
        simp only [Act.put, List.setIfInBounds_toArray, List.set_cons_zero, List.set_cons_succ, Nat.reduceAdd, Nat.zero_add]
        iterate 1 (refine calm_quiet (v := ?_) (by rfl) (by rfl) (fun W hW hD => ?_) ?_; rotate_left; (· (clear hD hW; go_simp; try with_reducible rfl)); simp only [Act.put, List.setIfInBounds_toArray, List.set_cons_zero, List.set_cons_succ, Nat.reduceAdd, Nat.zero_add])
        refine calm_tail (by rfl) fun W hW hF => ?_
        have h6 : OwnK noteK (G + 1) W v51 ((l.take p ++ [x]) ++ l.drop p) := hF 6 (by kernel_rfl) (by kernel_rfl)
        obtain ⟨l2, hl2⟩ : ∃ l2, l2 = (l.take p ++ [x]) ++ l.drop p := ⟨_, rfl⟩
        rw [← hl2] at h6
        have HL2 : Hid (l2 = insN x l) := by show _ = _; rw [hl2, List.append_assoc, HPl.out]; rfl
        have HL2l : Hid (l2.length ≤ 1000) := by show _ ≤ _; rw [hl2, List.length_append, HTl.out]; have := HDl.out; omega
        clear hl2
        obtain ⟨xa, xc, hv51, hxc1, hxc2⟩ := h6.shape
        subst hv51
        generalize hxn : l2.length = xn at *
        have HXn := Lib.hid hxn
        clear hxn
        have hS := raddR_grown HW8.out hG2 hW h6
        have z1 := BoxN.cell hS.1 1 _ rfl
        have zf := BoxN.frozen hS.1
        have HW10 := Lib.hid (raddR_set hS)
        clear hF hW h6 hS HQ8 HBl8 HLt8 HBx8 HDr9 HSA HW8 HW6 HR6
        go_wp2_with (refine wpl_gen (fun W' => RAddR w G key (.slice (some ⟨gb, off, none⟩) n c) x (.slice xa xn xc) l2 W') HW10.out ?_; intro W10 hR10; have HR10 := Lib.hid hR10; have q0 := BoxN.cell hR10.1 0 _ rfl; have q1 := BoxN.cell hR10.1 1 _ rfl; have HV10 := Lib.hid (refDos_any key _ l2 W10 (hR10.2.1.rows noteOk) (by rw [HXn.out]; have := HL2l.out; omega)); clear hR10)
        clear q0 q1 z1 zf
        refine HV10.out.mono ?_
        rintro e w12 ⟨rfl, hb⟩
        have HO6 := Lib.hid (HR10.out.1.below hb HR10.out.1.lt)
        have HB6 := Lib.hid (HR10.out.2.2.2.2.2.1.trans (hb.mono HR10.out.2.2.2.2.2.1.size))
        have HR6 := Lib.hid (BoxN.below HR10.out.2.2.2.2.1 hb HR10.out.2.2.2.2.1.lt)
        have HK6 := Lib.hid (OwnK.below HR10.out.2.1 hb (Nat.le_refl _))
        clear hb HV10 HR10 HW10
        cases hv : dosB ⟨key, l2⟩
        · have HE : Hid (addN ⟨key, l⟩ x = (⟨[], []⟩, 400)) := by
            show _ = _
            unfold addN
            rw [← HL2.out, HD.out, hv]
            rfl
          clear hv
          have hr := HR6.out
          have z0 := BoxN.cell hr 0 _ rfl
          have z1 := BoxN.cell hr 1 _ rfl
          have zf := BoxN.frozen hr
          have HZ := Lib.hid (BoxN.set2 hr (.string (⟨#[]⟩ : ByteArray)) (.slice none 0 0))
          have HBf := Lib.hid ((HB6.out.setCell (p := ⟨w.heap.size + 2, 0, none⟩) (by show w.heap.size ≤ w.heap.size + 2; omega) (.string (⟨#[]⟩ : ByteArray))).setCell (p := ⟨w.heap.size + 2, 1, none⟩) (by show w.heap.size ≤ w.heap.size + 2; omega) (.slice none 0 0))
          clear hr
          go_wp2
          have hE := HZ.out
          exact bodyPost_ret (v := .tuple #[dosV [] (.slice none 0 0), .int .i64 400]) (by simp [results, Tryz.results36, go_sem, BoxN.cell hE 0 _ rfl, BoxN.cell hE 1 _ rfl]; try rfl) rfl ⟨_, by rw [HE.out]; try rfl, by rw [HE.out]; exact OwnK.nil _ _, HBf.out⟩
        · have HE : Hid (addN ⟨key, l⟩ x = (⟨key, l2⟩, 0)) := by
            show _ = _
            unfold addN
            rw [← HL2.out, HD.out, hv]
            rfl
          have q0 := BoxN.cell HO6.out 0 _ rfl
          have q1 := BoxN.cell HO6.out 1 _ rfl
          have hr := HR6.out
          have z0 := BoxN.cell hr 0 _ rfl
          have z1 := BoxN.cell hr 1 _ rfl
          have zf := BoxN.frozen hr
          have HZ := Lib.hid (BoxN.set2 hr (.string (bs key)) (.slice xa xn xc))
          have HKf := Lib.hid ((HK6.out.setOther (g := w.heap.size + 2) (by omega) 0 (.string (bs key))).setOther (g := w.heap.size + 2) (by omega) 1 (.slice xa xn xc))
          have HBf := Lib.hid ((HB6.out.setCell (p := ⟨w.heap.size + 2, 0, none⟩) (by show w.heap.size ≤ w.heap.size + 2; omega) (.string (bs key))).setCell (p := ⟨w.heap.size + 2, 1, none⟩) (by show w.heap.size ≤ w.heap.size + 2; omega) (.slice xa xn xc))
          clear hr hv
          go_wp2
          have hE := HZ.out
          exact bodyPost_ret (v := .tuple #[dosV key (.slice xa xn xc), .int .i64 0]) (by simp [results, Tryz.results36, go_sem, BoxN.cell hE 0 _ rfl, BoxN.cell hE 1 _ rfl]; try rfl) rfl ⟨_, by rw [HE.out]; try rfl, by rw [HE.out]; exact HKf.out.mono (by omega), HBf.out⟩
    · obtain rfl : p = n := by omega
      obtain rfl : p = pl := by omega
      have dn : ¬ ((p : Int) < (p : Int)) := by omega
      have dn' : decide (p < p) = false := decide_eq_false hpn
      go_wp2
      refine wp_region_calm ⟨[], fun k v _ => True, fun _ => [], 99, none, 1000⟩ (by kernel_rfl) (by kernel_rfl) (by kernel_rfl) (fun g h => by cases h) (fun k hk v W W' c h hg hc => h) ?_
      iterate 6 (refine calm_quiet (v := ?_) (by rfl) (by rfl) (fun W hW hD => ?_) ?_; rotate_left; (· (obtain ⟨⟨z0, z1⟩, y0, y1, y2, y3⟩ := HQ.out W hW; clear hD hW; go_simp; try with_reducible rfl)); simp only [Act.put, List.setIfInBounds_toArray, List.set_cons_zero, List.set_cons_succ, Nat.reduceAdd, Nat.zero_add])
      iterate 7 (refine calm_skip (by rfl) (by rfl) ?_; simp only [Act.put, List.setIfInBounds_toArray, List.set_cons_zero, List.set_cons_succ, Nat.reduceAdd, Nat.zero_add])
      iterate 1 (refine calm_quiet (v := ?_) (by rfl) (by rfl) (fun W hW hD => ?_) ?_; rotate_left; (· (clear hD hW; go_simp; try with_reducible rfl)); simp only [Act.put, List.setIfInBounds_toArray, List.set_cons_zero, List.set_cons_succ, Nat.reduceAdd, Nat.zero_add])
      refine calm_nil fun W hW hF => ?_
      have HBf := Lib.hid (HBw.out.trans ((grown_below hW).mono HBw.out.size))
      have HDf : Hid (DosN w.heap.size key (.slice a p c) W) := BoxN.grown HDr.out hW (by simp)
      have HNf : Hid (NoteN (w.heap.size + 1) x W) := BoxN.grown HNr.out hW (by simp)
      have HRf := Lib.hid (BoxN.grown HRr.out hW (by simp))
      clear hF hW HQ HDr HNr HRr HB HBw dn dn' hp hpn
      obtain ⟨G, hG⟩ : ∃ G, G = W.heap.size := ⟨_, rfl⟩
      have hG2 : w.heap.size + 2 < G := by rw [hG]; exact HRf.out.lt
      have HBoxG : Hid (BoxN G 26 #[.string (bs key), .slice none 0 0] (W.alloc (.cells #[.string (bs key), .slice none 0 0] 26))) := by show BoxN _ _ _ _; rw [hG]; exact box_new W _ _
      have HDg : Hid (DosN w.heap.size key (.slice a p c) (W.alloc (.cells #[.string (bs key), .slice none 0 0] 26))) := BoxN.alloc HDf.out _
      have HNg : Hid (NoteN (w.heap.size + 1) x (W.alloc (.cells #[.string (bs key), .slice none 0 0] 26))) := BoxN.alloc HNf.out _
      have HRg := Lib.hid (HRf.out.alloc (.cells #[.string (bs key), .slice none 0 0] 26))
      have HBg := Lib.hid (HBf.out.alloc HBf.out.size (.cells #[.string (bs key), .slice none 0 0] 26))
      have hzg : (W.alloc (.cells #[.string (bs key), .slice none 0 0] 26)).heap.size = G + 1 := by simp [hG]
      have q0 := DosN.c0 HDf.out
      have q1 := DosN.c1 HDf.out
      go_wp2
      clear q0 q1
      rw [← hG]
      generalize (W.alloc (.cells #[.string (bs key), .slice none 0 0] 26)) = W5 at *
      clear hG HDf HNf HRf HBf
      have HQ5 : Hid (∀ W, W5.grownBy W none → (W.cell? ⟨w.heap.size, 0, none⟩ = some (.string (bs key)) ∧ W.cell? ⟨w.heap.size, 1, none⟩ = some (.slice a p c)) ∧ W.cell? ⟨G, 0, none⟩ = some (.string (bs key)) ∧ W.cell? ⟨G, 1, none⟩ = some (.slice none 0 0)) := fun W hW =>
        have hd := BoxN.grown HDg.out hW (by simp)
        have hg := BoxN.grown HBoxG.out hW (by simp)
        ⟨⟨DosN.c0 hd, DosN.c1 hd⟩, BoxN.cell hg 0 _ rfl, BoxN.cell hg 1 _ rfl⟩
      have hpc : (p : Int) ≤ (c : Int) := by omega
      have hpc0 : 0 ≤ (p : Int) := by omega
      have hpp : (p : Int) ≤ (p : Int) := by omega
      have HTk : Hid ((l.take p).length = p) := by show _ = _; rw [List.length_take, HN.out]; omega
      have HRw : Hid (∀ W, W5.grownBy W none → RowsAt noteK w.heap.size W (.slice a p c) (l.take p)) := fun W hW => RowsAt.take (HL.out.below (HBg.out.trans ((grown_below hW).mono HBg.out.size)) (Nat.le_refl _)) p c (by rw [HN.out]; omega) (by omega) (by unfold maxLen; omega)
      refine wp_region_calm ⟨[6], fun k v W => OwnK noteK (G + 1) W v (l.take p), fun _ => [], 99, none, 8⟩ (by kernel_rfl) (by kernel_rfl) (by kernel_rfl) (fun g h => by cases h) (fun k hk v W W' c h hg hc => ?_) ?_
      · cases c with
        | none => exact OwnK.kept h hg (fun g h => by cases h)
        | some g => obtain ⟨_, _, i, j, u, hd, _⟩ := hc g rfl; simp at hd
      iterate 6 (refine calm_quiet (v := ?_) (by rfl) (by rfl) (fun W hW hD => ?_) ?_; rotate_left; (· (obtain ⟨⟨z0, z1⟩, y0, y1⟩ := HQ5.out W hW; clear hD hW; go_simp; try with_reducible rfl)); simp only [Act.put, List.setIfInBounds_toArray, List.set_cons_zero, List.set_cons_succ, Nat.reduceAdd, Nat.zero_add])
      refine calm_makes (by rfl) (by rfl) (fun W hW hD Kc hK => ?_) (fun v37 => ?_)
      · have hWs := hW.size
        exact wp_append_K noteOk (.tmp 32) (.tmp 36) rfl (G + 1) _ (.slice none 0 0) (.slice a p c) [] (l.take p) rfl rfl (OwnK.nil _ _) (HRw.out W hW) (by rw [HTk.out]; simp; omega) (by omega) (fun v' w' h1 h2 h3 => hK _ _ (made_below h1 (grown_below h2) (fun g hg => ⟨(by
          have hg' : v'.ownBlock = some g := hg
          rcases h3 with h3 | h3
          · rw [h3] at hg'; cases hg'
          · rw [h3] at hg'; cases hg'; exact Nat.le_refl _), (World.ownsRow.lt h1 g hg).2⟩)))
      simp only [Act.put, List.setIfInBounds_toArray, List.set_cons_zero, List.set_cons_succ, Nat.reduceAdd, Nat.zero_add]
      iterate 1 (refine calm_quiet (v := ?_) (by rfl) (by rfl) (fun W hW hD => ?_) ?_; rotate_left; (· (clear hD hW; go_simp; try with_reducible rfl)); simp only [Act.put, List.setIfInBounds_toArray, List.set_cons_zero, List.set_cons_succ, Nat.reduceAdd, Nat.zero_add])
      refine calm_tail (by rfl) fun W hW hF => ?_
      have h6 : OwnK noteK (G + 1) W v37 (l.take p) := hF 6 (by kernel_rfl) (by kernel_rfl)
      obtain ⟨ra, rc, hv37, hrc1, hrc2⟩ := h6.shape
      subst hv37
      rw [HTk.out] at h6 hrc1 ⊢
      have hgx := BoxN.grown HBoxG.out hW (by simp)
      have hds := BoxN.grown HDg.out hW (by simp)
      have hns := BoxN.grown HNg.out hW (by simp)
      have hrs := BoxN.grown HRg.out hW (by simp)
      have hbs := HBg.out.trans ((grown_below hW).mono HBg.out.size)
      have hzs := hW.size
      have z1 := BoxN.cell hgx 1 _ rfl
      have zf := BoxN.frozen hgx
      have HW6 : Hid (RAddR w G key (.slice a p c) x (.slice ra p rc) (l.take p) (W.setCell ⟨G, 1, none⟩ (.slice ra p rc))) :=
        ⟨hgx.set 1 _, h6.setOther (by omega) 1 _, BoxN.other hds (by omega), BoxN.other hns (by omega), BoxN.other hrs (by omega), hbs.setCell (p := ⟨G, 1, none⟩) (by show _ ≤ G; omega) _, by rw [show (W.setCell ⟨G, 1, none⟩ (.slice ra p rc)).heap.size = W.heap.size from by simp [World.setCell]]; omega⟩
      clear hF hW h6 hgx hds hns hrs hbs hzs HQ5 HRw HBoxG HDg HNg HRg HBg
      unfold maxLen at hrc2
      go_wp2_with (first | (refine wpl_gen (fun W' => RAddR w G key (.slice a p c) x (.slice ra p rc) (l.take p) W') HW6.out ?_; intro W6 hR6; have HR6 := Lib.hid hR6; have o0 := BoxN.cell hR6.1 0 _ rfl; have o1 := BoxN.cell hR6.1 1 _ rfl; obtain ⟨p', n1', n2', n3'⟩ := NoteN.cells hR6.2.2.2.1; have hlG := BoxN.lt hR6.1; clear hR6) | (at_builtin; refine append_K3 noteOk rfl _ _ rfl (G + 1) _ _ _ (l.take p) [x] rfl rfl (raddR_alloc HR6.out x).2.1 (rowN_lit' _ x _ rfl) (by rw [HTk.out]; simp; omega) (raddR_alloc HR6.out x).2.2.2.2.2.2 ?_; intro v' w7 hown' hgrow hblk; obtain ⟨sa, sc, hsh, hsc1, hsc2⟩ := hown'.shape; rw [List.length_append, HTk.out, List.length_singleton] at hsh hsc1; subst hsh; have hR7 := raddR_grown (raddR_alloc HR6.out x) hG2 hgrow hown'; have y1 := BoxN.cell hR7.1 1 _ rfl; have yf := BoxN.frozen hR7.1; have HW8 := Lib.hid (raddR_set hR7); clear o0 o1 p' n1' n2' n3' hlG hgrow hblk hown' hR7))
      clear y1 yf
      generalize (w7.setCell ⟨G, 1, none⟩ (.slice sa (p + 1) sc)) = W8 at *
      obtain ⟨SA, hSA⟩ : ∃ SA : Option Addr, SA = (if c = p then a else (a : Option Addr).map (fun q => q.add (p * 4))) := ⟨_, rfl⟩
      have HSA := Lib.hid hSA
      have HBx8 : Hid (Below w.heap.size w W8) := HW8.out.2.2.2.2.2.1
      have HDr8 : Hid (∀ W, W8.grownBy W none → RowsAt noteK w.heap.size W (.slice SA (p - p) (c - p)) (l.drop p)) := fun W hW => by
        rw [hSA]
        exact RowsAt.drop2 (HL.out.below (HBx8.out.trans ((grown_below hW).mono HBx8.out.size)) (Nat.le_refl _)) p (by rw [HN.out]; omega)
      have HDr9 : Hid (∀ (W : World), Below w.heap.size w W → RowsAt noteK w.heap.size W (.slice SA (p - p) (c - p)) (l.drop p)) := fun W hW => by
        rw [hSA]
        exact RowsAt.drop2 (HL.out.below hW (Nat.le_refl _)) p (by rw [HN.out]; omega)
      clear hSA HDr8
      have HLt8 : Hid (∀ g, (Value.slice sa (p + 1) sc).ownBlock = some g → G + 1 ≤ g ∧ g < W8.heap.size) := World.ownsRow.lt HW8.out.2.1
      have HBl8 : Hid (∀ W, W8.grownBy W (Value.slice sa (p + 1) sc).ownBlock → Below w.heap.size w W) := fun W hW => HBx8.out.grown hW HBx8.out.size (fun k hk => by have := (HLt8.out k hk).1; omega)
      have HQ8 : Hid (∀ W, W8.grownBy W (Value.slice sa (p + 1) sc).ownBlock → (W.cell? ⟨w.heap.size, 0, none⟩ = some (.string (bs key)) ∧ W.cell? ⟨w.heap.size, 1, none⟩ = some (.slice a p c)) ∧ W.cell? ⟨G, 0, none⟩ = some (.string (bs key)) ∧ W.cell? ⟨G, 1, none⟩ = some (.slice sa (p + 1) sc)) := fun W hW =>
        have hd := BoxN.grown HW8.out.2.2.1 hW (fun e => by have := (HLt8.out _ e).1; omega)
        have hg := BoxN.grown HW8.out.1 hW (fun e => by have := (HLt8.out _ e).1; omega)
        ⟨⟨DosN.c0 hd, DosN.c1 hd⟩, BoxN.cell hg 0 _ rfl, BoxN.cell hg 1 _ rfl⟩
      have HTl : Hid ((l.take p ++ [x]).length = p + 1) := by show _ = _; rw [List.length_append, HTk.out, List.length_singleton]
      have HDl : Hid ((l.drop p).length ≤ p) := by show _ ≤ _; rw [List.length_drop, HN.out]; omega
      refine wp_region_calm ⟨[1, 6], fun k v W => if k = 1 then v = .slice sa (p + 1) sc ∧ OwnK noteK (G + 1) W v (l.take p ++ [x]) else OwnK noteK (G + 1) W v ((l.take p ++ [x]) ++ l.drop p), fun k => if k = 6 then [1] else [], 1, (Value.slice sa (p + 1) sc).ownBlock, 8⟩ (by kernel_rfl) (by kernel_rfl) (by kernel_rfl) (fun g h => (HLt8.out g h).2) (fun k hk v W W' c h hg hc => ?_) ?_
      · by_cases h1 : k = 1
        · simp only [h1, if_true] at h ⊢
          exact ⟨h.1, h.2.kept hg fun g hh => (hc g hh).1⟩
        · simp only [h1, if_false] at h ⊢
          exact h.kept hg fun g hh => (hc g hh).1
      iterate 1 (refine calm_quiet (v := ?_) (by rfl) (by rfl) (fun W hW hD => ?_) ?_; rotate_left; (· (clear hD hW; go_simp; try with_reducible rfl)); simp only [Act.put, List.setIfInBounds_toArray, List.set_cons_zero, List.set_cons_succ, Nat.reduceAdd, Nat.zero_add])
      refine calm_makes (by rfl) (by rfl) (fun W hW hD Kc hK => ?_) (fun v46 => ?_)
      · have hWn : W8.grownBy W none := hW
        obtain ⟨_, z0, z1⟩ := HQ8.out W (grown_wideK hWn _)
        refine wp_of_run (v := .slice sa (p + 1) sc) (w' := W) ?_ (hK _ _ ⟨⟨rfl, OwnK.kept HW8.out.2.1 hWn (fun g hg => by cases hg)⟩, ⟨none, World.grownBy.refl _ _, .inl rfl⟩, fun g hg => ⟨Nat.lt_of_lt_of_le (HLt8.out g hg).2 hWn.size, .inr (.inr ⟨rfl, hg⟩)⟩⟩)
        clear hD hW hK hWn
        go_simp
      simp only [Act.put, List.setIfInBounds_toArray, List.set_cons_zero, List.set_cons_succ, Nat.reduceAdd, Nat.zero_add]
      iterate 3 (refine calm_quiet (v := ?_) (by rfl) (by rfl) (fun W hW hD => ?_) ?_; rotate_left; (· (obtain ⟨⟨z0, z1⟩, y0, y1⟩ := HQ8.out W hW; clear hD hW; go_simp; try with_reducible rfl)); simp only [Act.put, List.setIfInBounds_toArray, List.set_cons_zero, List.set_cons_succ, Nat.reduceAdd, Nat.zero_add])
      refine calm_quiet (v := .slice SA (p - p) (c - p)) (by rfl) (by rfl) (fun W hW hD => ?_) ?_
      · clear hD hW
        have hE := HSA.out
        go_simp
        all_goals first | rfl | (rw [hE]; rfl) | (subst hE; simp) | (subst hE; go_simp)
      simp only [Act.put, List.setIfInBounds_toArray, List.set_cons_zero, List.set_cons_succ, Nat.reduceAdd, Nat.zero_add]
      refine calm_makes (by rfl) (by rfl) (fun W hW hD Kc hK => ?_) (fun v51 => ?_)
      · obtain ⟨h46, hrow⟩ : v46 = .slice sa (p + 1) sc ∧ OwnK noteK (G + 1) W v46 (l.take p ++ [x]) := hD [] 1 (by kernel_rfl) (by kernel_rfl) (by kernel_rfl)
        have hWs := hW.size
        have hz8 := HW8.out.2.2.2.2.2.2
        have hlen1 := HTl.out
        have hlen2 := HDl.out
        have hbw := HBl8.out W hW
        subst h46
        exact wp_append_K noteOk (.tmp 46) (.tmp 50) rfl (G + 1) _ (.slice sa (p + 1) sc) (.slice SA (p - p) (c - p)) (l.take p ++ [x]) (l.drop p) rfl rfl hrow (HDr9.out W hbw) (by omega) (by omega) (fun v' w' h1 h2 h3 => hK _ _ (made_grown (j := 1) (u := .slice sa (p + 1) sc) (by kernel_rfl) rfl h1 h2 (fun g hg => ⟨(World.ownsRow.lt h1 g hg).2, grown_own h3 hg⟩)))
      simp only [Act.put, List.setIfInBounds_toArray, List.set_cons_zero, List.set_cons_succ, Nat.reduceAdd, Nat.zero_add]
      iterate 1 (refine calm_quiet (v := ?_) (by rfl) (by rfl) (fun W hW hD => ?_) ?_; rotate_left; (· (clear hD hW; go_simp; try with_reducible rfl)); simp only [Act.put, List.setIfInBounds_toArray, List.set_cons_zero, List.set_cons_succ, Nat.reduceAdd, Nat.zero_add])
      refine calm_tail (by rfl) fun W hW hF => ?_
      have h6 : OwnK noteK (G + 1) W v51 ((l.take p ++ [x]) ++ l.drop p) := hF 6 (by kernel_rfl) (by kernel_rfl)
      obtain ⟨l2, hl2⟩ : ∃ l2, l2 = (l.take p ++ [x]) ++ l.drop p := ⟨_, rfl⟩
      rw [← hl2] at h6
      have HL2 : Hid (l2 = insN x l) := by show _ = _; rw [hl2, List.append_assoc, HPl.out]; rfl
      have HL2l : Hid (l2.length ≤ 1000) := by show _ ≤ _; rw [hl2, List.length_append, HTl.out]; have := HDl.out; omega
      clear hl2
      obtain ⟨xa, xc, hv51, hxc1, hxc2⟩ := h6.shape
      subst hv51
      generalize hxn : l2.length = xn at *
      have HXn := Lib.hid hxn
      clear hxn
      have hS := raddR_grown HW8.out hG2 hW h6
      have z1 := BoxN.cell hS.1 1 _ rfl
      have zf := BoxN.frozen hS.1
      have HW10 := Lib.hid (raddR_set hS)
      clear hF hW h6 hS HQ8 HBl8 HLt8 HBx8 HDr9 HSA HW8 HW6 HR6
      go_wp2_with (refine wpl_gen (fun W' => RAddR w G key (.slice a p c) x (.slice xa xn xc) l2 W') HW10.out ?_; intro W10 hR10; have HR10 := Lib.hid hR10; have q0 := BoxN.cell hR10.1 0 _ rfl; have q1 := BoxN.cell hR10.1 1 _ rfl; have HV10 := Lib.hid (refDos_any key _ l2 W10 (hR10.2.1.rows noteOk) (by rw [HXn.out]; have := HL2l.out; omega)); clear hR10)
      clear q0 q1 z1 zf
      refine HV10.out.mono ?_
      rintro e w12 ⟨rfl, hb⟩
      have HO6 := Lib.hid (HR10.out.1.below hb HR10.out.1.lt)
      have HB6 := Lib.hid (HR10.out.2.2.2.2.2.1.trans (hb.mono HR10.out.2.2.2.2.2.1.size))
      have HR6 := Lib.hid (BoxN.below HR10.out.2.2.2.2.1 hb HR10.out.2.2.2.2.1.lt)
      have HK6 := Lib.hid (OwnK.below HR10.out.2.1 hb (Nat.le_refl _))
      clear hb HV10 HR10 HW10
      cases hv : dosB ⟨key, l2⟩
      · have HE : Hid (addN ⟨key, l⟩ x = (⟨[], []⟩, 400)) := by
          show _ = _
          unfold addN
          rw [← HL2.out, HD.out, hv]
          rfl
        clear hv
        have hr := HR6.out
        have z0 := BoxN.cell hr 0 _ rfl
        have z1 := BoxN.cell hr 1 _ rfl
        have zf := BoxN.frozen hr
        have HZ := Lib.hid (BoxN.set2 hr (.string (⟨#[]⟩ : ByteArray)) (.slice none 0 0))
        have HBf := Lib.hid ((HB6.out.setCell (p := ⟨w.heap.size + 2, 0, none⟩) (by show w.heap.size ≤ w.heap.size + 2; omega) (.string (⟨#[]⟩ : ByteArray))).setCell (p := ⟨w.heap.size + 2, 1, none⟩) (by show w.heap.size ≤ w.heap.size + 2; omega) (.slice none 0 0))
        clear hr
        go_wp2
        have hE := HZ.out
        exact bodyPost_ret (v := .tuple #[dosV [] (.slice none 0 0), .int .i64 400]) (by simp [results, Tryz.results36, go_sem, BoxN.cell hE 0 _ rfl, BoxN.cell hE 1 _ rfl]; try rfl) rfl ⟨_, by rw [HE.out]; try rfl, by rw [HE.out]; exact OwnK.nil _ _, HBf.out⟩
      · have HE : Hid (addN ⟨key, l⟩ x = (⟨key, l2⟩, 0)) := by
          show _ = _
          unfold addN
          rw [← HL2.out, HD.out, hv]
          rfl
        have q0 := BoxN.cell HO6.out 0 _ rfl
        have q1 := BoxN.cell HO6.out 1 _ rfl
        have hr := HR6.out
        have z0 := BoxN.cell hr 0 _ rfl
        have z1 := BoxN.cell hr 1 _ rfl
        have zf := BoxN.frozen hr
        have HZ := Lib.hid (BoxN.set2 hr (.string (bs key)) (.slice xa xn xc))
        have HKf := Lib.hid ((HK6.out.setOther (g := w.heap.size + 2) (by omega) 0 (.string (bs key))).setOther (g := w.heap.size + 2) (by omega) 1 (.slice xa xn xc))
        have HBf := Lib.hid ((HB6.out.setCell (p := ⟨w.heap.size + 2, 0, none⟩) (by show w.heap.size ≤ w.heap.size + 2; omega) (.string (bs key))).setCell (p := ⟨w.heap.size + 2, 1, none⟩) (by show w.heap.size ≤ w.heap.size + 2; omega) (.slice xa xn xc))
        clear hr hv
        go_wp2
        have hE := HZ.out
        exact bodyPost_ret (v := .tuple #[dosV key (.slice xa xn xc), .int .i64 0]) (by simp [results, Tryz.results36, go_sem, BoxN.cell hE 0 _ rfl, BoxN.cell hE 1 _ rfl]; try rfl) rfl ⟨_, by rw [HE.out]; try rfl, by rw [HE.out]; exact HKf.out.mono (by omega), HBf.out⟩
end Go.Proofs.YteicimmdcdjagaaGreatDoor
