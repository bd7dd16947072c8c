/- The reference's Content, Of, seal, Salt, Seals, All. -/
import Derived.Test.YteicimmdcdjagaaGreatDoorVLawQ
import Derived.Test.YteicimmdcdjagaaGreatDoorMDigR
set_option linter.unusedVariables false
set_option linter.unusedSimpArgs false
namespace Go.Proofs.YteicimmdcdjagaaGreatDoor
open Go.RowKit Go.Shelf

theorem LiveP.rebase {w0 W : World} {Ps : List (World → Prop)} (h : LiveP w0 Ps W) : LiveP W Ps W := ⟨Below.refl _ _, h.2.1, h.2.2⟩
/-- The content of notes up to one. -/
def contTo (l : List VNote) (k : Nat) : List UInt8 := enc (zz (l.length : Int)) ++ notesC (l.take k)
theorem contTo_succ (l : List VNote) (k : Nat) (x : VNote) (h : l[k]? = some x) : contTo l (k + 1) = contTo l k ++ enc (zz x.day) ++ enc (zz x.kind) ++ encS x.text := by
  have hk := (List.getElem?_eq_some_iff.1 h).1
  have hx : l.getD k default = x := by rw [List.getD_eq_getElem?_getD, h]; rfl
  unfold contTo
  rw [take_getD l default k hk, hx]
  simp [notesC, noteC]
theorem notesC_bd : ∀ (l : List VNote), (∀ n ∈ l, NoteZ n) → (notesC l).length ≤ 65566 * l.length
  | [], _ => by simp [notesC]
  | x :: t, h => by
    have ih := notesC_bd t (fun n hn => h n (List.mem_cons_of_mem _ hn))
    have hx := (h x (List.mem_cons_self ..)).2.2
    have h1 := enc_length (zz x.day)
    have h2 := enc_length (zz x.kind)
    have h3 := enc_length (zz (x.text.length : Int))
    have e : notesC (x :: t) = enc (zz x.day) ++ (enc (zz x.kind) ++ encS x.text) ++ notesC t := by simp [notesC, noteC]
    rw [e]
    simp only [List.length_append, List.length_cons, encS]
    omega
theorem contTo_bd (l : List VNote) (k : Nat) (hl : l.length ≤ 1000) (h : ∀ n ∈ l, NoteZ n) : (contTo l k).length ≤ 70000000 := by
  have h1 := enc_length (zz (l.length : Int))
  have h2 := notesC_bd (l.take k) (fun n hn => h n (List.mem_of_mem_take hn))
  rw [List.length_take] at h2
  unfold contTo
  rw [List.length_append]
  omega
theorem contTo_all (l : List VNote) : contTo l l.length = contentN l := by unfold contTo contentN; rw [List.take_of_length_le (Nat.le_refl _)]
theorem refPutStr_ok (t : List UInt8) (w : World) (h : t.length ≤ 65536) : Calls Tryz.prog 79 #[.string (bs t)] w fun e w' => e = .returned (.tuple #[.string (bs (encS t)), .int .i64 0]) ∧ Below w.heap.size w w' := by
  have e : putStr t = (encS t, 0) := if_pos h
  refine (refPutString_any (bs t) w (by rw [bs_size]; unfold maxLen; omega)).mono ?_
  rintro e' w' ⟨rfl, hb⟩
  rw [bs_list, e]
  exact ⟨rfl, hb⟩
theorem cat_eq4 {a b c d e : List UInt8} : (a = b ++ c ++ d ++ e) = (bs a = bs b ++ bs c ++ bs d ++ bs e) := by rw [cat_bs, cat_bs, cat_bs]; exact propext ⟨fun h => by rw [h], fun h => by rw [← bs_list a, h, bs_list]⟩
theorem refPutN_ok (n : Int) (w : World) (h : EncZ n) : Calls Tryz.prog 63 #[.int .i64 n] w fun e w' => e = .returned (.tuple #[.string (bs (enc (zz n))), .int .i64 0]) ∧ Below w.heap.size w w' := refPutInt_yes n w h.1 h.2
set_option maxRecDepth 100000 in
set_option maxHeartbeats 4000000 in
theorem refContent_any (nv : Value) (l : List VNote) (w : World) (h : RowsAt noteK w.heap.size w nv l) (hl : l.length ≤ 1000) (hz : ∀ n ∈ l, NoteZ n) :
    Calls Tryz.prog 45 #[nv] w fun e w' => e = .returned (.string (bs (contentN l))) ∧ Below w.heap.size w w' := by
  obtain ⟨a, c, rfl, hac, hcm⟩ := h.shape
  have HL := Lib.hid h
  have HS := Lib.hid (contTo_succ l)
  have HBd := Lib.hid (fun k => contTo_bd l k hl hz)
  have HA := Lib.hid (contTo_all l)
  have H0 : Hid (contTo l 0 = enc (zz (l.length : Int))) := by show _ = _; simp [contTo, notesC]
  have HZ := Lib.hid (fun x k (hx : l[k]? = some x) => hz x (List.mem_of_getElem? hx))
  generalize hn : l.length = n at *
  have HN := Lib.hid hn
  clear hn h hz
  go_enter Tryz.func45, Tryz.ntmps45
  go_wp2_with fail
  refine (refPutN_ok (n : Int) _ (by unfold EncZ; omega)).mono ?_
  rintro e w1 ⟨rfl, hb⟩
  rw [← H0.out]
  have HB1 := Lib.hid hb
  clear hb H0
  go_wp2
  go_loopw [3, 5] (fun s i wr => ∃ k : Nat, k ≤ n ∧ s = .string (bs (contTo l k)) ∧ i = .int .i64 k ∧ Hid (Below w.heap.size w wr)) (fun _ i _ => n - (intOf i).toNat)
  case atStart => exact ⟨0, Nat.zero_le _, rfl, rfl, HB1⟩
  case round =>
    obtain ⟨k, hk, rfl, rfl, HB⟩ := hrel
    by_cases h1 : k < n
    · have ji : (k : Int) < (n : Int) := by omega
      have j0 : 0 ≤ (k : Int) := by omega
      obtain ⟨x, hx⟩ : ∃ x, x = l.getD k default := ⟨_, rfl⟩
      have hget : l[k]? = some x := by rw [hx, List.getD_eq_getElem?_getD, List.getElem?_eq_getElem (by rw [HN.out]; exact h1)]; rfl
      obtain ⟨gb, off, hae, hgb, hat⟩ := notes_at HL.out k x hget
      subst hae
      have HQ : Hid (∀ W, Below w.heap.size w W → NoteAt W gb (off + k * 4) x) := fun W hW => by
        obtain ⟨p0, p1, p2, p3⟩ := hat
        exact ⟨(hW.cell hgb).trans p0, (hW.cell hgb).trans p1, (hW.cell hgb).trans p2, (hW.cell hgb).trans p3⟩
      have HSx := Lib.hid (HS.out k x hget)
      obtain ⟨z1, z2, z3⟩ := HZ.out x k hget
      have Z1 := Lib.hid z1; have Z2 := Lib.hid z2; have Z3 := Lib.hid z3
      have hb1 := HBd.out k
      have hb2 := enc_length (zz x.day)
      have hb3 := enc_length (zz x.kind)
      have hb4 : (encS x.text).length ≤ 65546 := by have := enc_length (zz (x.text.length : Int)); simp only [encS, List.length_append]; omega
      clear hx hget hat z1 z2 z3
      obtain ⟨x0, x1, x2, x3⟩ := HQ.out wr HB.out
      go_wp2_with fail
      refine (refPutN_ok x.day _ Z1.out).mono ?_
      rintro e w2 ⟨rfl, hb⟩
      clear x0 x1 x2 x3
      have HB2 := Lib.hid (HB.out.trans (hb.mono HB.out.size))
      clear hb HB
      obtain ⟨x0, x1, x2, x3⟩ := HQ.out w2 HB2.out
      go_wp2_with fail
      refine (refPutN_ok x.kind _ Z2.out).mono ?_
      rintro e w3 ⟨rfl, hb⟩
      clear x0 x1 x2 x3
      have HB3 := Lib.hid (HB2.out.trans (hb.mono HB2.out.size))
      clear hb HB2
      obtain ⟨x0, x1, x2, x3⟩ := HQ.out w3 HB3.out
      go_wp2_with fail
      refine (refPutStr_ok x.text _ Z3.out).mono ?_
      rintro e w4 ⟨rfl, hb⟩
      clear x0 x1 x2 x3
      have HB4 := Lib.hid (HB3.out.trans (hb.mono HB3.out.size))
      clear hb HB3
      rw [cat_eq4] at HSx
      have y1 : (bs (contTo l k)).size ≤ 70000000 := by rw [bs_size]; exact hb1
      have y2 : (bs (enc (zz x.day))).size ≤ 10 := by rw [bs_size]; exact hb2
      have y3 : (bs (enc (zz x.kind))).size ≤ 10 := by rw [bs_size]; exact hb3
      have y4 : (bs (encS x.text)).size ≤ 65546 := by rw [bs_size]; exact hb4
      clear hb1 hb2 hb3 hb4
      generalize bs (contTo l k) = X1 at *
      generalize bs (enc (zz x.day)) = X2 at *
      generalize bs (enc (zz x.kind)) = X3 at *
      generalize bs (encS x.text) = X4 at *
      have s1 : ¬ (9223372036854775807 < X1.size + X2.size) := by omega
      have s2 : ¬ (9223372036854775807 < X1.size + X2.size + X3.size) := by omega
      have s3 : ¬ (9223372036854775807 < X1.size + X2.size + X3.size + X4.size) := by omega
      go_wp2
      go_roundw
      case rel => exact ⟨k + 1, by omega, by rw [HSx.out], by go_num, HB4⟩
      case measure => simp [intOf]; omega
    · obtain rfl : k = n := by omega
      have ji : ¬ ((k : Int) < (k : Int)) := by omega
      go_wp2
      go_ret
      exact ⟨by rw [HA.out]; rfl, HB.out⟩
set_option maxRecDepth 100000 in
set_option maxHeartbeats 4000000 in
theorem refOf_any (key : List UInt8) (nv : Value) (l : List VNote) (id : Int) (w : World) (h : RowsAt noteK w.heap.size w nv l) (hl : l.length ≤ 1000) (hT : Rounds w) :
    Calls Tryz.prog 21 #[dosV key nv, .int .i64 id] w fun e w' => ∃ nv', e = .returned nv' ∧ OwnK noteK w.heap.size w' nv' (ofN l id) ∧ Below w.heap.size w w' := by
  obtain ⟨ra, rc, rfl, hac, hcm⟩ := h.shape
  have HE : Hid (ofN l id = l.filter fun n => decide (n.unit = id)) := rfl
  generalize hn : l.length = rn at *
  have HN := Lib.hid hn
  have hL := (((LiveP.start hT).add (P := RowsN noteK (.slice ra rn rc) l) (keep_rows h)).alloc (.cells #[.string (bs key), .slice ra rn rc] 26)).add (P := BoxN w.heap.size 26 #[.string (bs key), .slice ra rn rc]) (keep_box (box_new w _ _))
  have HB0 := Lib.hid hL.below
  obtain ⟨V, hV⟩ : ∃ V, V = w.alloc (.cells #[.string (bs key), .slice ra rn rc] 26) := ⟨_, rfl⟩
  rw [← hV] at hL HB0
  have HL9 := Lib.hid hL
  have HFl : Hid (∀ k2, ((l.take k2).filter fun n => decide (n.unit = id)).length ≤ 1000) := fun k2 => Nat.le_trans (List.length_filter_le _ _) (by rw [List.length_take, hn]; omega)
  clear hn h hT hL
  go_enter Tryz.func21, Tryz.ntmps21
  go_wp2
  rw [← hV]
  clear hV
  go_loopw [5, 6] (fun v i wr => ∃ k2 : Nat, k2 ≤ rn ∧ i = .int .i64 k2 ∧ (∃ sa sc, v = .slice sa ((l.take k2).filter fun n => decide (n.unit = id)).length sc) ∧ Hid (OwnK noteK V.heap.size wr v ((l.take k2).filter fun n => decide (n.unit = id))) ∧ Hid (Below V.heap.size V wr)) (fun _ i _ => rn - (intOf i).toNat)
  case atStart => exact ⟨0, Nat.zero_le _, rfl, ⟨_, _, rfl⟩, Lib.hid (OwnK.nil _ _), Lib.hid (Below.refl _ _)⟩
  case round =>
    obtain ⟨k2, hk2, rfl, ⟨sa, sc, rfl⟩, HO, HB⟩ := hrel
    have hL := HL9.out.step HB.out
    by_cases h1 : k2 < rn
    · have ji : (k2 : Int) < (rn : Int) := by omega
      have j0 : 0 ≤ (k2 : Int) := by omega
      obtain ⟨x, hx⟩ : ∃ x, x = l.getD k2 default := ⟨_, rfl⟩
      have hget : l[k2]? = some x := by rw [hx, List.getD_eq_getElem?_getD, List.getElem?_eq_getElem (by rw [HN.out]; exact h1)]; rfl
      obtain ⟨gb, off, hae, hgb, hat⟩ := notes_at (show (RowsN noteK (.slice ra rn rc) l) _ from hL.get (by simp)) k2 x hget
      subst hae
      have HS := Lib.hid (filter_at (fun n => decide (n.unit = id)) l k2 (by rw [HN.out]; exact h1))
      rw [← hx] at HS
      have d1 := BoxN.cell (show (BoxN w.heap.size 26 #[.string (bs key), .slice (some ⟨gb, off, none⟩) rn rc]) _ from hL.get (by simp)) 1 _ rfl
      obtain ⟨x0, x1, x2, x3⟩ := hat
      have hfk := HFl.out k2
      generalize ((l.take k2).filter fun n => decide (n.unit = id)) = T at *
      clear hx hget hL
      by_cases hxa : x.unit = id
      · have HS1 : Hid (((l.take (k2 + 1)).filter fun n => decide (n.unit = id)) = T ++ [x]) := by show _ = _; rw [HS.out]; simp [hxa]
        have e1 : (x.unit == id) = true := beq_iff_eq.2 hxa
        clear hxa HS
        have HO1 := Lib.hid (OwnK.kept HO.out (World.grownBy_alloc wr (.cells (noteR x) 48) none) (fun g h => by cases h))
        have HB1 := Lib.hid (HB.out.alloc HB.out.size (.cells (noteR x) 48))
        have hzz : V.heap.size ≤ (wr.alloc (.cells (noteR x) 48)).heap.size := HB1.out.size
        go_wp2_with (at_builtin; refine append_KK noteOk rfl _ _ rfl V.heap.size _ _ _ T [x] rfl rfl HO1.out (rowN_lit wr x _ rfl) (by simp; omega) hzz V HB1.out ?_; intro v' w9 hown' hgrow hbelow; obtain ⟨a', c', hsh, _, _⟩ := hown'.shape; rw [List.length_append, List.length_singleton] at hsh; subst hsh)
        have HOg := Lib.hid hown'
        have HBg := Lib.hid hbelow
        clear hown' hgrow hbelow x0 x1 x2 x3 d1 HO1 HB1
        go_roundw
        case rel => exact ⟨k2 + 1, by omega, by go_num, ⟨_, _, by rw [HS1.out, List.length_append, List.length_singleton]⟩, by rw [HS1.out]; exact HOg, HBg⟩
        case measure => simp [intOf]; omega
      · have HS1 : Hid (((l.take (k2 + 1)).filter fun n => decide (n.unit = id)) = T) := by show _ = _; rw [HS.out]; simp [hxa]
        have e1 : (x.unit == id) = false := beq_eq_false_iff_ne.2 hxa
        clear hxa HS
        go_wp2
        go_roundw
        case rel => exact ⟨k2 + 1, by omega, by go_num, ⟨_, _, by rw [HS1.out]⟩, by rw [HS1.out]; exact HO, HB⟩
        case measure => simp [intOf]; omega
    · obtain rfl : k2 = rn := by omega
      have ji : ¬ ((k2 : Int) < (k2 : Int)) := by omega
      have d1 := BoxN.cell (show (BoxN w.heap.size 26 #[.string (bs key), .slice ra k2 rc]) _ from hL.get (by simp)) 1 _ rfl
      rw [List.take_of_length_le (by rw [HN.out]; exact Nat.le_refl _)] at HO ⊢
      have HOf := Lib.hid (HO.out.mono HB0.out.size)
      have HBf := Lib.hid (HB0.out.trans (HB.out.mono HB0.out.size))
      clear hL HO HB
      go_wp2
      go_ret
      exact ⟨_, rfl, by rw [HE.out]; exact HOf.out, HBf.out⟩
set_option maxRecDepth 100000 in
set_option maxHeartbeats 1000000 in
theorem refSeal_any (salt : Bytes) (nv : Value) (l : List VNote) (w : World) (h : RowsAt noteK w.heap.size w nv l) (hl : l.length ≤ 1000) (hz : ∀ n ∈ l, NoteZ n) (hs : salt.length ≤ 1000000) :
    Calls Tryz.prog 55 #[.string (bs salt), nv] w fun e w' => e = .returned (.string (bs (sealB salt l))) ∧ Below w.heap.size w w' := by
  have HC := Lib.hid (refContent_any nv l w h hl hz)
  have HE : Hid (sealB salt l = nodeB salt (leafB (contentN l))) := rfl
  have hcb := contTo_bd l l.length hl hz
  rw [contTo_all] at hcb
  have hcs : (bs (contentN l)).size ≤ 70000000 := by rw [bs_size]; exact hcb
  have hss : (bs salt).size ≤ 1000000 := by rw [bs_size]; exact hs
  have hls : (bs (leafB (contentN l))).size ≤ 1000000 := by rw [bs_size, leafB_length]; omega
  clear h hz hcb hs
  go_enter Tryz.func55, Tryz.ntmps55
  go_wp2_with fail
  refine HC.out.mono ?_
  rintro e w1 ⟨rfl, hb⟩
  have HB1 := Lib.hid hb
  clear hb HC
  go_wp2_with fail
  refine (refLeaf_any (bs (contentN l)) w1 (by omega)).mono ?_
  rintro e w2 ⟨rfl, hb⟩
  rw [bs_list]
  have HB2 := Lib.hid (HB1.out.trans (hb.mono HB1.out.size))
  clear hb
  go_wp2_with fail
  refine (refNode_any (bs salt) (bs (leafB (contentN l))) w2 (by omega) (by omega)).mono ?_
  rintro e w3 ⟨rfl, hb⟩
  rw [bs_list, bs_list, ← HE.out]
  have HB3 := Lib.hid (HB2.out.trans (hb.mono HB2.out.size))
  clear hb
  go_wp2
  go_ret
  exact ⟨rfl, HB3.out⟩
set_option maxRecDepth 100000 in
set_option maxHeartbeats 1000000 in
theorem refSalt_any (key : Bytes) (id : Int) (w : World) (hk : key.length = 32) (h0 : 0 ≤ id) (h9 : id ≤ 99) :
    Calls Tryz.prog 44 #[.string (bs key), .int .i64 id] w fun e w' => e = .returned (.tuple #[.string (bs (saltB key id)), .int .i64 0]) ∧ Below w.heap.size w w' := by
  have hel := enc_length (zz id)
  have HG : Hid (saltB key id = nodeB key (leafB (enc (zz id)))) := rfl
  have hks : (bs key).size = 32 := by rw [bs_size]; exact hk
  have hks2 : (((bs key).size : Int) != 32) = false := vsize32_f hk
  have hes : (bs (enc (zz id))).size ≤ 10 := by rw [bs_size]; exact hel
  have hls : (bs (leafB (enc (zz id)))).size = 32 := by rw [bs_size]; exact leafB_length _
  have i1 : decide (id < 0) = false := by simp; omega
  have i2 : decide (99 < id) = false := by simp; omega
  have i3 : ¬ (id < 0) := by omega
  have i4 : ¬ (99 < id) := by omega
  clear hel hk
  go_enter Tryz.func44, Tryz.ntmps44
  go_wp2_with fail
  refine (refPutN_ok id w (by unfold EncZ; omega)).mono ?_
  rintro e w1 ⟨rfl, hb⟩
  generalize enc (zz id) = E at *
  have HB1 := Lib.hid hb
  clear hb
  go_wp2_with fail
  refine (refLeaf_any (bs E) w1 (by omega)).mono ?_
  rintro e w2 ⟨rfl, hb⟩
  rw [bs_list]
  have HB2 := Lib.hid (HB1.out.trans (hb.mono HB1.out.size))
  clear hb
  go_wp2_with fail
  refine (refNode_any (bs key) (bs (leafB E)) w2 (by omega) (by omega)).mono ?_
  rintro e w3 ⟨rfl, hb⟩
  rw [bs_list, bs_list, ← HG.out]
  have HB3 := Lib.hid (HB2.out.trans (hb.mono HB2.out.size))
  clear hb
  go_wp2
  go_ret2
  exact ⟨rfl, HB3.out⟩

/-- The seals of the first units. -/
def sealTo2 (d : VDos) (k : Nat) : List Bytes := (List.range k).map fun (i : Nat) => sealB (saltB d.key i) (ofL d i)
theorem sealTo2_succ (d : VDos) (k : Nat) : sealTo2 d (k + 1) = sealTo2 d k ++ [sealB (saltB d.key k) (ofL d k)] := by simp [sealTo2, List.range_succ]
theorem sealTo2_len (d : VDos) (k : Nat) : (sealTo2 d k).length = k := by simp [sealTo2]
def allTo (d : VDos) (k : Nat) : List Bytes := hashedL (sealsL d) ++ (List.range k).flatMap fun (i : Nat) => sealH (saltB d.key i) (ofL d i)
theorem allTo_succ (d : VDos) (k : Nat) : allTo d (k + 1) = allTo d k ++ [0 :: contentN (ofL d k), 1 :: (saltB d.key k ++ leafB (contentN (ofL d k)))] := by simp [allTo, List.range_succ, sealH]
theorem allTo_len (d : VDos) (k : Nat) : (allTo d k).length ≤ 201 + 2 * k := by
  have h := hashedL_bd (sealsL d)
  rw [sealsL_length] at h
  induction k with
  | zero => simp [allTo]; omega
  | succ k ih => rw [allTo_succ, List.length_append]; simp; omega
theorem sealsL_sm (d : VDos) : Sm (sealsL d) := ⟨by rw [sealsL_length]; omega, fun x hx => by
  obtain ⟨i, _, rfl⟩ := List.mem_map.1 hx
  rw [show (sealB (saltB d.key i) (ofL d i)).length = 32 from nodeB_length _ _]
  omega⟩
theorem ownS_lit2 (W : World) (base : Nat) (y z : Bytes) (hb : base ≤ W.heap.size) : OwnS base (W.alloc (.cells #[.string (bs y), .string (bs z)] 9)) (.slice (some ⟨W.heap.size, 0, none⟩) 2 2) [y, z] :=
  World.ownsRow_lit W #[.string (bs y), .string (bs z)] 2 hb (by unfold maxLen; omega) rfl
set_option maxRecDepth 100000 in
set_option maxHeartbeats 4000000 in
theorem refSeals_any (key : List UInt8) (nv : Value) (l : List VNote) (w : World) (h : RowsAt noteK w.heap.size w nv l) (hl : l.length ≤ 1000) (hz : ∀ n ∈ l, NoteZ n) (hk : key.length = 32) (hT : Rounds w) :
    Calls Tryz.prog 43 #[dosV key nv] w fun e w' => ∃ v, e = .returned v ∧ OwnS w.heap.size w' v (sealsL ⟨key, l⟩) ∧ Below w.heap.size w w' := by
  obtain ⟨ra, rc, rfl, hac, hcm⟩ := h.shape
  have HE : Hid (sealsL ⟨key, l⟩ = sealTo2 ⟨key, l⟩ 100) := rfl
  have HZo : Hid (∀ id, (ofN l id).length ≤ 1000 ∧ ∀ n ∈ ofN l id, NoteZ n) := fun id => ⟨Nat.le_trans (List.length_filter_le _ _) hl, fun n hn => hz n (List.mem_filter.1 hn).1⟩
  generalize hn : l.length = rn at *
  have HN := Lib.hid hn
  have HKy := Lib.hid hk
  have hL := (((LiveP.start hT).add (P := RowsN noteK (.slice ra rn rc) l) (keep_rows h)).alloc (.cells #[.string (bs key), .slice ra rn rc] 26)).add (P := BoxN w.heap.size 26 #[.string (bs key), .slice ra rn rc]) (keep_box (box_new w _ _))
  have HB0 := Lib.hid hL.below
  obtain ⟨V, hV⟩ : ∃ V, V = w.alloc (.cells #[.string (bs key), .slice ra rn rc] 26) := ⟨_, rfl⟩
  rw [← hV] at hL HB0
  have HL9 := Lib.hid hL.rebase
  clear hn h hT hL hz hk
  go_enter Tryz.func43, Tryz.ntmps43
  go_wp2
  rw [← hV]
  clear hV
  go_loopw [3, 4] (fun v i wr => ∃ k : Nat, k ≤ 100 ∧ i = .int .i64 k ∧ (∃ sa sc, v = .slice sa k sc) ∧ Hid (OwnS V.heap.size wr v (sealTo2 ⟨key, l⟩ k)) ∧ Hid (Below V.heap.size V wr)) (fun _ i _ => 100 - (intOf i).toNat)
  case atStart => exact ⟨0, Nat.zero_le _, rfl, ⟨_, _, rfl⟩, Lib.hid (World.ownsRow_nil _ _ _ _), Lib.hid (Below.refl _ _)⟩
  case round =>
    obtain ⟨k, hk, rfl, ⟨sa, sc, rfl⟩, HO, HB⟩ := hrel
    by_cases h1 : k < 100
    · have l0 : (k : Int) ≤ 99 := by omega
      have l1 : decide ((k : Int) ≤ 99) = true := decide_eq_true l0
      have wk : IntKind.i64.wrap ((k : Int) + 1) = (k : Int) + 1 := IntWalk.i64_in _ (by omega)
      have WK := Lib.hid wk
      have HS := Lib.hid (sealTo2_succ ⟨key, l⟩ k)
      have hLn := sealTo2_len ⟨key, l⟩ k
      have hL := HL9.out.step HB.out
      have d0 := BoxN.cell (show (BoxN w.heap.size 26 #[.string (bs key), .slice ra rn rc]) _ from hL.get (by simp)) 0 _ rfl
      have HL1 := Lib.hid hL
      clear hL HB wk
      go_wp2_with fail
      clear d0
      refine (refSalt_any key (k : Int) _ HKy.out (by omega) (by omega)).mono ?_
      rintro e w1 ⟨rfl, hb⟩
      have hL := HL1.out.step hb
      have HO1 := Lib.hid (OwnS.below HO.out hb (Nat.le_refl _))
      have d0 := BoxN.cell (show (BoxN w.heap.size 26 #[.string (bs key), .slice ra rn rc]) _ from hL.get (by simp)) 0 _ rfl
      have d1 := BoxN.cell (show (BoxN w.heap.size 26 #[.string (bs key), .slice ra rn rc]) _ from hL.get (by simp)) 1 _ rfl
      have HL2 := Lib.hid hL
      clear hL hb HL1 HO
      go_wp2_with fail
      clear d0 d1
      refine (refOf_any key _ l (k : Int) _ (show (RowsN noteK (.slice ra rn rc) l) _ from HL2.out.get (by simp)) (by rw [HN.out]; exact hl) HL2.out.rounds).mono ?_
      rintro e w2 ⟨nv', rfl, ho, hb⟩
      have hL := (HL2.out.step hb).add (P := RowsN noteK nv' (ofN l k)) (keep_rows (ho.rows noteOk))
      have HO2 := Lib.hid (OwnS.below HO1.out hb (Nat.le_refl _))
      have HL3 := Lib.hid hL
      clear hL hb ho HL2 HO1
      go_wp2_with fail
      refine (refSeal_any (saltB key (k : Int)) nv' (ofN l k) _ (show RowsN noteK nv' (ofN l k) _ from HL3.out.get (by simp)) (HZo.out k).1 (HZo.out k).2 (by rw [saltB_length]; omega)).mono ?_
      rintro e w3 ⟨rfl, hb⟩
      have HO3 := Lib.hid (OwnS.below HO2.out hb (Nat.le_refl _))
      have HB3 := Lib.hid (HL3.out.step hb).below
      clear hb HL3 HO2
      have HS : Hid (sealTo2 ⟨key, l⟩ (k + 1) = sealTo2 ⟨key, l⟩ k ++ [sealB (saltB key (k : Int)) (ofN l k)]) := HS.out
      generalize sealB (saltB key (k : Int)) (ofN l k) = z at *
      generalize sealTo2 ⟨key, l⟩ k = T at *
      have wk := WK.out
      have hz0 := HB3.out.size
      go_wp2_with (at_builtin; refine append_SS rfl _ _ rfl V.heap.size V.heap.size _ _ T [z] rfl rfl (World.ownsRow.alloc HO3.out _) (ownS_lit w3 V.heap.size z hz0) (by rw [hLn]; simp; omega) (by simp; omega) V (HB3.out.alloc hz0 _) ?_; intro v5 w5 hO5 hg5 hb5; obtain ⟨a5, c5, hsh5, _, _⟩ := hO5.shape2; rw [List.length_append, List.length_singleton, hLn] at hsh5; subst hsh5)
      have HO5 := Lib.hid hO5
      have HB5 := Lib.hid hb5
      clear hO5 hg5 hb5 HO3 HB3
      go_roundw
      case rel => exact ⟨k + 1, by omega, by go_num, ⟨_, _, rfl⟩, by rw [HS.out]; exact HO5, HB5⟩
      case measure => simp [intOf]; omega
    · obtain rfl : k = 100 := by omega
      have l0 : ¬ (((100 : Nat) : Int) ≤ 99) := by omega
      have l1 : decide (((100 : Nat) : Int) ≤ 99) = false := decide_eq_false l0
      have HOf := Lib.hid (OwnS.mono HO.out HB0.out.size)
      have HBf := Lib.hid (HB0.out.trans (HB.out.mono HB0.out.size))
      clear HO HB
      go_wp2
      go_ret
      exact ⟨_, rfl, by rw [HE.out]; exact HOf.out, HBf.out⟩
set_option maxRecDepth 100000 in
set_option maxHeartbeats 4000000 in
theorem refAll_any (key : List UInt8) (nv : Value) (l : List VNote) (w : World) (h : RowsAt noteK w.heap.size w nv l) (hl : l.length ≤ 1000) (hz : ∀ n ∈ l, NoteZ n) (hk : key.length = 32) (hT : Rounds w) :
    Calls Tryz.prog 15 #[dosV key nv] w fun e w' => ∃ v, e = .returned v ∧ OwnS w.heap.size w' v (allH ⟨key, l⟩) ∧ Below w.heap.size w w' := by
  obtain ⟨ra, rc, rfl, hac, hcm⟩ := h.shape
  have HE : Hid (allH ⟨key, l⟩ = allTo ⟨key, l⟩ 100) := rfl
  have HE0 : Hid (hashedL (sealsL ⟨key, l⟩) = allTo ⟨key, l⟩ 0) := by show _ = _; simp [allTo]
  have HZo : Hid (∀ id, (ofN l id).length ≤ 1000 ∧ ∀ n ∈ ofN l id, NoteZ n) := fun id => ⟨Nat.le_trans (List.length_filter_le _ _) hl, fun n hn => hz n (List.mem_filter.1 hn).1⟩
  have HZz := Lib.hid hz
  generalize hn : l.length = rn at *
  have HN := Lib.hid hn
  have HKy := Lib.hid hk
  have hL := (((LiveP.start hT).add (P := RowsN noteK (.slice ra rn rc) l) (keep_rows h)).alloc (.cells #[.string (bs key), .slice ra rn rc] 26)).add (P := BoxN w.heap.size 26 #[.string (bs key), .slice ra rn rc]) (keep_box (box_new w _ _))
  have d0 := BoxN.cell (show (BoxN w.heap.size 26 #[.string (bs key), .slice ra rn rc]) _ from hL.get (by simp)) 0 _ rfl
  have d1 := BoxN.cell (show (BoxN w.heap.size 26 #[.string (bs key), .slice ra rn rc]) _ from hL.get (by simp)) 1 _ rfl
  have HL9 := Lib.hid hL
  clear hn h hT hL hz hk
  go_enter Tryz.func15, Tryz.ntmps15
  go_wp2_with fail
  clear d0 d1
  refine (refSeals_any key _ l _ (show (RowsN noteK (.slice ra rn rc) l) _ from HL9.out.get (by simp)) (by rw [HN.out]; exact hl) HZz.out HKy.out HL9.out.rounds).mono ?_
  rintro e w1 ⟨sv, rfl, ho, hb⟩
  have hL := HL9.out.step hb
  have HL1 := Lib.hid hL
  have HSt := Lib.hid ho.strs
  clear hL hb ho HL9
  go_wp2_with fail
  refine (hashed_any 100 (sealsL ⟨key, l⟩) sv w1 (by rw [sealsL_length]; exact Nat.le_refl _) (sealsL_sm _) HSt.out).mono ?_
  rintro e V ⟨hv, rfl, ho, hb⟩
  rw [HE0.out] at ho
  obtain ⟨ha, hc, hx, _, _⟩ := ho.shape2
  subst hx
  have HB0 := Lib.hid HL1.out.below
  have hws := HB0.out.size
  have HOs := Lib.hid ho
  have HBs := Lib.hid hb
  have HL9 := Lib.hid HL1.out.rebase
  clear hb ho HL1 HSt
  go_wp2
  go_loopw [3, 4] (fun v i wr => ∃ k : Nat, k ≤ 100 ∧ i = .int .i64 k ∧ (∃ sa sn sc, v = .slice sa sn sc) ∧ Hid (OwnS w1.heap.size wr v (allTo ⟨key, l⟩ k)) ∧ Hid (Below w1.heap.size w1 wr)) (fun _ i _ => 100 - (intOf i).toNat)
  case atStart => exact ⟨0, Nat.zero_le _, rfl, ⟨_, _, _, rfl⟩, HOs, HBs⟩
  case round =>
    clear HOs HBs
    obtain ⟨k, hk, rfl, ⟨sa, sn, sc, rfl⟩, HO, HB⟩ := hrel
    have HL1 := Lib.hid (HL9.out.step HB.out)
    by_cases h1 : k < 100
    · have l0 : (k : Int) ≤ 99 := by omega
      have l1 : decide ((k : Int) ≤ 99) = true := decide_eq_true l0
      have wk : IntKind.i64.wrap ((k : Int) + 1) = (k : Int) + 1 := IntWalk.i64_in _ (by omega)
      have WK := Lib.hid wk
      have HS := Lib.hid (allTo_succ ⟨key, l⟩ k)
      have hLn := allTo_len ⟨key, l⟩ k
      have hcb := contTo_bd (ofN l k) (ofN l k).length (HZo.out k).1 (HZo.out k).2
      rw [contTo_all] at hcb
      have hL := HL1.out
      have d0 := BoxN.cell (show (BoxN w.heap.size 26 #[.string (bs key), .slice ra rn rc]) _ from hL.get (by simp)) 0 _ rfl
      clear hL wk
      go_wp2_with fail
      clear d0
      refine (refSalt_any key (k : Int) _ HKy.out (by omega) (by omega)).mono ?_
      rintro e w3 ⟨rfl, hb⟩
      have hL := HL1.out.step hb
      have HO1 := Lib.hid (OwnS.below HO.out hb (Nat.le_refl _))
      have d0 := BoxN.cell (show (BoxN w.heap.size 26 #[.string (bs key), .slice ra rn rc]) _ from hL.get (by simp)) 0 _ rfl
      have d1 := BoxN.cell (show (BoxN w.heap.size 26 #[.string (bs key), .slice ra rn rc]) _ from hL.get (by simp)) 1 _ rfl
      have HL2 := Lib.hid hL
      clear hL hb HL1 HO
      go_wp2_with fail
      clear d0 d1
      refine (refOf_any key _ l (k : Int) _ (show (RowsN noteK (.slice ra rn rc) l) _ from HL2.out.get (by simp)) (by rw [HN.out]; exact hl) HL2.out.rounds).mono ?_
      rintro e w4 ⟨nv', rfl, ho, hb⟩
      have hL := (HL2.out.step hb)
      have HNv := Lib.hid (ho.rows noteOk)
      have HO2 := Lib.hid (OwnS.below HO1.out hb (Nat.le_refl _))
      have HL3 := Lib.hid hL
      clear hL hb ho HL2 HO1
      go_wp2_with fail
      refine (refContent_any nv' (ofN l k) _ HNv.out (HZo.out k).1 (HZo.out k).2).mono ?_
      rintro e w5 ⟨rfl, hb⟩
      have HO3 := Lib.hid (OwnS.below HO2.out hb (Nat.le_refl _))
      have HL4 := Lib.hid (HL3.out.step hb)
      clear hb HL3 HO2 HNv
      have HS : Hid (allTo ⟨key, l⟩ (k + 1) = allTo ⟨key, l⟩ k ++ [0 :: contentN (ofN l k), 1 :: (saltB key k ++ leafB (contentN (ofN l k)))]) := HS.out
      have hsl := saltB_length key (k : Int)
      have hll := leafB_length (contentN (ofN l k))
      generalize contentN (ofN l k) = C at *
      generalize saltB key (k : Int) = S at *
      have hcs : (bs C).size ≤ 70000000 := by rw [bs_size]; exact hcb
      have hss : (bs S).size = 32 := by rw [bs_size]; exact hsl
      have hls : (bs (leafB C)).size = 32 := by rw [bs_size]; exact hll
      have HC0 := Lib.hid (cat_bs1 0 C)
      have HC1 : Hid ((⟨#[1]⟩ : ByteArray) ++ bs S ++ bs (leafB C) = bs (1 :: (S ++ leafB C))) := by show _ = _; rw [cat_bs1, cat_bs]; rfl
      have s1 : ¬ (9223372036854775807 < 1 + (bs C).size) := by omega
      have s2 : ¬ (9223372036854775807 < 1 + (bs S).size) := by omega
      have s3 : ¬ (9223372036854775807 < 1 + (bs S).size + (bs (leafB C)).size) := by omega
      clear hcb hsl hll
      go_wp2_with fail
      refine (refLeaf_any (bs C) w5 (by omega)).mono ?_
      rintro e w6 ⟨rfl, hb⟩
      rw [bs_list]
      have HO4 := Lib.hid (OwnS.below HO3.out hb (Nat.le_refl _))
      have hL := HL4.out.step hb
      have HB6 := Lib.hid hL.below
      clear hb HL4 HO3 hL
      rw [HC0.out]
      generalize leafB C = F at *
      generalize allTo ⟨key, l⟩ k = T at *
      have wk := WK.out
      have hz0 := HB6.out.size
      have HLi := Lib.hid (ownS_lit2 w6 w1.heap.size (0 :: C) (1 :: (S ++ F)) hz0)
      rw [← HC1.out] at HLi
      generalize bs (0 :: C) = Y0 at *
      go_wp2_with (at_builtin; refine append_SS rfl _ _ rfl w1.heap.size w1.heap.size _ _ T [0 :: C, 1 :: (S ++ F)] rfl rfl (World.ownsRow.alloc HO4.out _) HLi.out (by simp; omega) (by simp; omega) w1 (HB6.out.alloc hz0 _) ?_; intro v5 w8 hO5 hg5 hb5; obtain ⟨a5, c5, hsh5, _, _⟩ := hO5.shape2; subst hsh5)
      have HO5 := Lib.hid hO5
      have HB5 := Lib.hid hb5
      clear hO5 hg5 hb5 HO4 HB6
      go_roundw
      case rel => exact ⟨k + 1, by omega, by go_num, ⟨_, _, _, rfl⟩, by rw [HS.out]; have h := HO5.out; rw [List.length_append] at h; exact Lib.hid h, HB5⟩
      case measure => simp [intOf]; omega
    · obtain rfl : k = 100 := by omega
      have l0 : ¬ (((100 : Nat) : Int) ≤ 99) := by omega
      have l1 : decide (((100 : Nat) : Int) ≤ 99) = false := decide_eq_false l0
      have HBf := Lib.hid (HB0.out.trans (HB.out.mono hws))
      have HOf := Lib.hid (OwnS.mono HO.out hws)
      clear HL1 HO HB
      go_wp2
      go_ret
      exact ⟨_, rfl, by rw [HE.out]; exact HOf.out, HBf.out⟩
end Go.Proofs.YteicimmdcdjagaaGreatDoor
