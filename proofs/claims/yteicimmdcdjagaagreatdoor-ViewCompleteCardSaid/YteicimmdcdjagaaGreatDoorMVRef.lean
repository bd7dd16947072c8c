import Derived.Test.YteicimmdcdjagaaGreatDoorVQ0
import Derived.Test.YteicimmdcdjagaaGreatDoorMDigR
import Derived.Test.YteicimmdcdjagaaGreatDoorVPages
import Derived.Test.YteicimmdcdjagaaGreatDoorVChk
set_option linter.unusedVariables false
set_option linter.unusedSimpArgs false

section
/- The reference's Content, Of, seal, Salt, Seals, All. -/
set_option linter.unusedVariables false
set_option linter.unusedSimpArgs false
namespace Go.Proofs.YteicimmdcdjagaaGreatDoor
open Go.RowKit Go.Shelf

theorem LiveP.rebase {w0 W : World} {Ps : List (World → Prop)} (h : LiveP w0 Ps W) : LiveP W Ps W := ⟨Below.refl _ _, h.2.1, h.2.2⟩
/-- The content of notes up to one. -/
def contTo (l : List VNote) (k : Nat) : List UInt8 := enc (zz (l.length : Int)) ++ notesC (l.take k)
theorem contTo_succ (l : List VNote) (k : Nat) (x : VNote) (h : l[k]? = some x) : contTo l (k + 1) = contTo l k ++ enc (zz x.day) ++ enc (zz x.kind) ++ encS x.text := by
  have hk := (List.getElem?_eq_some_iff.1 h).1
  have hx : l.getD k default = x := by rw [List.getD_eq_getElem?_getD, h]; rfl
  unfold contTo
  rw [take_getD l default k hk, hx]
  simp [notesC, noteC]
theorem notesC_bd : ∀ (l : List VNote), (∀ n ∈ l, NoteZ n) → (notesC l).length ≤ 65566 * l.length
  | [], _ => by simp [notesC]
  | x :: t, h => by
    have ih := notesC_bd t (fun n hn => h n (List.mem_cons_of_mem _ hn))
    have hx := (h x (List.mem_cons_self ..)).2.2
    have h1 := enc_length (zz x.day)
    have h2 := enc_length (zz x.kind)
    have h3 := enc_length (zz (x.text.length : Int))
    have e : notesC (x :: t) = enc (zz x.day) ++ (enc (zz x.kind) ++ encS x.text) ++ notesC t := by simp [notesC, noteC]
    rw [e]
    simp only [List.length_append, List.length_cons, encS]
    omega
theorem contTo_bd (l : List VNote) (k : Nat) (hl : l.length ≤ 1000) (h : ∀ n ∈ l, NoteZ n) : (contTo l k).length ≤ 70000000 := by
  have h1 := enc_length (zz (l.length : Int))
  have h2 := notesC_bd (l.take k) (fun n hn => h n (List.mem_of_mem_take hn))
  rw [List.length_take] at h2
  unfold contTo
  rw [List.length_append]
  omega
theorem contTo_all (l : List VNote) : contTo l l.length = contentN l := by unfold contTo contentN; rw [List.take_of_length_le (Nat.le_refl _)]
theorem refPutStr_ok (t : List UInt8) (w : World) (h : t.length ≤ 65536) : Calls Tryz.prog 79 #[.string (bs t)] w fun e w' => e = .returned (.tuple #[.string (bs (encS t)), .int .i64 0]) ∧ Below w.heap.size w w' := by
  have e : putStr t = (encS t, 0) := if_pos h
  refine (refPutString_any (bs t) w (by rw [bs_size]; unfold maxLen; omega)).mono ?_
  rintro e' w' ⟨rfl, hb⟩
  rw [bs_list, e]
  exact ⟨rfl, hb⟩
theorem cat_eq4 {a b c d e : List UInt8} : (a = b ++ c ++ d ++ e) = (bs a = bs b ++ bs c ++ bs d ++ bs e) := by rw [cat_bs, cat_bs, cat_bs]; exact propext ⟨fun h => by rw [h], fun h => by rw [← bs_list a, h, bs_list]⟩
theorem refPutN_ok (n : Int) (w : World) (h : EncZ n) : Calls Tryz.prog 63 #[.int .i64 n] w fun e w' => e = .returned (.tuple #[.string (bs (enc (zz n))), .int .i64 0]) ∧ Below w.heap.size w w' := refPutInt_yes n w h.1 h.2
set_option maxRecDepth 100000 in
set_option maxHeartbeats 4000000 in
theorem refContent_any (nv : Value) (l : List VNote) (w : World) (h : RowsAt noteK w.heap.size w nv l) (hl : l.length ≤ 1000) (hz : ∀ n ∈ l, NoteZ n) :
    Calls Tryz.prog 45 #[nv] w fun e w' => e = .returned (.string (bs (contentN l))) ∧ Below w.heap.size w w' := by
  obtain ⟨a, c, rfl, hac, hcm⟩ := h.shape
  have HL := Lib.hid h
  have HS := Lib.hid (contTo_succ l)
  have HBd := Lib.hid (fun k => contTo_bd l k hl hz)
  have HA := Lib.hid (contTo_all l)
  have H0 : Hid (contTo l 0 = enc (zz (l.length : Int))) := by show _ = _; simp [contTo, notesC]
  have HZ := Lib.hid (fun x k (hx : l[k]? = some x) => hz x (List.mem_of_getElem? hx))
  generalize hn : l.length = n at *
  have HN := Lib.hid hn
  clear hn h hz
  go_enter Tryz.func45, Tryz.ntmps45
  go_wp2_with fail
  refine (refPutN_ok (n : Int) _ (by unfold EncZ; omega)).mono ?_
  rintro e w1 ⟨rfl, hb⟩
  rw [← H0.out]
  have HB1 := Lib.hid hb
  clear hb H0
  go_wp2
  go_loopw [3, 5] (fun s i wr => ∃ k : Nat, k ≤ n ∧ s = .string (bs (contTo l k)) ∧ i = .int .i64 k ∧ Hid (Below w.heap.size w wr)) (fun _ i _ => n - (intOf i).toNat)
  case atStart => exact ⟨0, Nat.zero_le _, rfl, rfl, HB1⟩
  case round =>
    obtain ⟨k, hk, rfl, rfl, HB⟩ := hrel
    by_cases h1 : k < n
    · have ji : (k : Int) < (n : Int) := by omega
      have j0 : 0 ≤ (k : Int) := by omega
      obtain ⟨x, hx⟩ : ∃ x, x = l.getD k default := ⟨_, rfl⟩
      have hget : l[k]? = some x := by rw [hx, List.getD_eq_getElem?_getD, List.getElem?_eq_getElem (by rw [HN.out]; exact h1)]; rfl
      obtain ⟨gb, off, hae, hgb, hat⟩ := notes_at HL.out k x hget
      subst hae
      have HQ : Hid (∀ W, Below w.heap.size w W → NoteAt W gb (off + k * 4) x) := fun W hW => by
        obtain ⟨p0, p1, p2, p3⟩ := hat
        exact ⟨(hW.cell hgb).trans p0, (hW.cell hgb).trans p1, (hW.cell hgb).trans p2, (hW.cell hgb).trans p3⟩
      have HSx := Lib.hid (HS.out k x hget)
      obtain ⟨z1, z2, z3⟩ := HZ.out x k hget
      have Z1 := Lib.hid z1; have Z2 := Lib.hid z2; have Z3 := Lib.hid z3
      have hb1 := HBd.out k
      have hb2 := enc_length (zz x.day)
      have hb3 := enc_length (zz x.kind)
      have hb4 : (encS x.text).length ≤ 65546 := by have := enc_length (zz (x.text.length : Int)); simp only [encS, List.length_append]; omega
      clear hx hget hat z1 z2 z3
      obtain ⟨x0, x1, x2, x3⟩ := HQ.out wr HB.out
      go_wp2_with fail
      refine (refPutN_ok x.day _ Z1.out).mono ?_
      rintro e w2 ⟨rfl, hb⟩
      clear x0 x1 x2 x3
      have HB2 := Lib.hid (HB.out.trans (hb.mono HB.out.size))
      clear hb HB
      obtain ⟨x0, x1, x2, x3⟩ := HQ.out w2 HB2.out
      go_wp2_with fail
      refine (refPutN_ok x.kind _ Z2.out).mono ?_
      rintro e w3 ⟨rfl, hb⟩
      clear x0 x1 x2 x3
      have HB3 := Lib.hid (HB2.out.trans (hb.mono HB2.out.size))
      clear hb HB2
      obtain ⟨x0, x1, x2, x3⟩ := HQ.out w3 HB3.out
      go_wp2_with fail
      refine (refPutStr_ok x.text _ Z3.out).mono ?_
      rintro e w4 ⟨rfl, hb⟩
      clear x0 x1 x2 x3
      have HB4 := Lib.hid (HB3.out.trans (hb.mono HB3.out.size))
      clear hb HB3
      rw [cat_eq4] at HSx
      have y1 : (bs (contTo l k)).size ≤ 70000000 := by rw [bs_size]; exact hb1
      have y2 : (bs (enc (zz x.day))).size ≤ 10 := by rw [bs_size]; exact hb2
      have y3 : (bs (enc (zz x.kind))).size ≤ 10 := by rw [bs_size]; exact hb3
      have y4 : (bs (encS x.text)).size ≤ 65546 := by rw [bs_size]; exact hb4
      clear hb1 hb2 hb3 hb4
      generalize bs (contTo l k) = X1 at *
      generalize bs (enc (zz x.day)) = X2 at *
      generalize bs (enc (zz x.kind)) = X3 at *
      generalize bs (encS x.text) = X4 at *
      have s1 : ¬ (9223372036854775807 < X1.size + X2.size) := by omega
      have s2 : ¬ (9223372036854775807 < X1.size + X2.size + X3.size) := by omega
      have s3 : ¬ (9223372036854775807 < X1.size + X2.size + X3.size + X4.size) := by omega
      go_wp2
      go_roundw
      case rel => exact ⟨k + 1, by omega, by rw [HSx.out], by go_num, HB4⟩
      case measure => simp [intOf]; omega
    · obtain rfl : k = n := by omega
      have ji : ¬ ((k : Int) < (k : Int)) := by omega
      go_wp2
      go_ret
      exact ⟨by rw [HA.out]; rfl, HB.out⟩
set_option maxRecDepth 100000 in
set_option maxHeartbeats 4000000 in
theorem refOf_any (key : List UInt8) (nv : Value) (l : List VNote) (id : Int) (w : World) (h : RowsAt noteK w.heap.size w nv l) (hl : l.length ≤ 1000) (hT : Rounds w) :
    Calls Tryz.prog 21 #[dosV key nv, .int .i64 id] w fun e w' => ∃ nv', e = .returned nv' ∧ OwnK noteK w.heap.size w' nv' (ofN l id) ∧ Below w.heap.size w w' := by
  obtain ⟨ra, rc, rfl, hac, hcm⟩ := h.shape
  have HE : Hid (ofN l id = l.filter fun n => decide (n.unit = id)) := rfl
  generalize hn : l.length = rn at *
  have HN := Lib.hid hn
  have hL := (((LiveP.start hT).add (P := RowsN noteK (.slice ra rn rc) l) (keep_rows h)).alloc (.cells #[.string (bs key), .slice ra rn rc] 26)).add (P := BoxN w.heap.size 26 #[.string (bs key), .slice ra rn rc]) (keep_box (box_new w _ _))
  have HB0 := Lib.hid hL.below
  obtain ⟨V, hV⟩ : ∃ V, V = w.alloc (.cells #[.string (bs key), .slice ra rn rc] 26) := ⟨_, rfl⟩
  rw [← hV] at hL HB0
  have HL9 := Lib.hid hL
  have HFl : Hid (∀ k2, ((l.take k2).filter fun n => decide (n.unit = id)).length ≤ 1000) := fun k2 => Nat.le_trans (List.length_filter_le _ _) (by rw [List.length_take, hn]; omega)
  clear hn h hT hL
  go_enter Tryz.func21, Tryz.ntmps21
  go_wp2
  rw [← hV]
  clear hV
  go_loopw [5, 6] (fun v i wr => ∃ k2 : Nat, k2 ≤ rn ∧ i = .int .i64 k2 ∧ (∃ sa sc, v = .slice sa ((l.take k2).filter fun n => decide (n.unit = id)).length sc) ∧ Hid (OwnK noteK V.heap.size wr v ((l.take k2).filter fun n => decide (n.unit = id))) ∧ Hid (Below V.heap.size V wr)) (fun _ i _ => rn - (intOf i).toNat)
  case atStart => exact ⟨0, Nat.zero_le _, rfl, ⟨_, _, rfl⟩, Lib.hid (OwnK.nil _ _), Lib.hid (Below.refl _ _)⟩
  case round =>
    obtain ⟨k2, hk2, rfl, ⟨sa, sc, rfl⟩, HO, HB⟩ := hrel
    have hL := HL9.out.step HB.out
    by_cases h1 : k2 < rn
    · have ji : (k2 : Int) < (rn : Int) := by omega
      have j0 : 0 ≤ (k2 : Int) := by omega
      obtain ⟨x, hx⟩ : ∃ x, x = l.getD k2 default := ⟨_, rfl⟩
      have hget : l[k2]? = some x := by rw [hx, List.getD_eq_getElem?_getD, List.getElem?_eq_getElem (by rw [HN.out]; exact h1)]; rfl
      obtain ⟨gb, off, hae, hgb, hat⟩ := notes_at (show (RowsN noteK (.slice ra rn rc) l) _ from hL.get (by simp)) k2 x hget
      subst hae
      have HS := Lib.hid (filter_at (fun n => decide (n.unit = id)) l k2 (by rw [HN.out]; exact h1))
      rw [← hx] at HS
      have d1 := BoxN.cell (show (BoxN w.heap.size 26 #[.string (bs key), .slice (some ⟨gb, off, none⟩) rn rc]) _ from hL.get (by simp)) 1 _ rfl
      obtain ⟨x0, x1, x2, x3⟩ := hat
      have hfk := HFl.out k2
      generalize ((l.take k2).filter fun n => decide (n.unit = id)) = T at *
      clear hx hget hL
      by_cases hxa : x.unit = id
      · have HS1 : Hid (((l.take (k2 + 1)).filter fun n => decide (n.unit = id)) = T ++ [x]) := by show _ = _; rw [HS.out]; simp [hxa]
        have e1 : (x.unit == id) = true := beq_iff_eq.2 hxa
        clear hxa HS
        have HO1 := Lib.hid (OwnK.kept HO.out (World.grownBy_alloc wr (.cells (noteR x) 48) none) (fun g h => by cases h))
        have HB1 := Lib.hid (HB.out.alloc HB.out.size (.cells (noteR x) 48))
        have hzz : V.heap.size ≤ (wr.alloc (.cells (noteR x) 48)).heap.size := HB1.out.size
        go_wp2_with (at_builtin; refine append_KK noteOk rfl _ _ rfl V.heap.size _ _ _ T [x] rfl rfl HO1.out (rowN_lit wr x _ rfl) (by simp; omega) hzz V HB1.out ?_; intro v' w9 hown' hgrow hbelow; obtain ⟨a', c', hsh, _, _⟩ := hown'.shape; rw [List.length_append, List.length_singleton] at hsh; subst hsh)
        have HOg := Lib.hid hown'
        have HBg := Lib.hid hbelow
        clear hown' hgrow hbelow x0 x1 x2 x3 d1 HO1 HB1
        go_roundw
        case rel => exact ⟨k2 + 1, by omega, by go_num, ⟨_, _, by rw [HS1.out, List.length_append, List.length_singleton]⟩, by rw [HS1.out]; exact HOg, HBg⟩
        case measure => simp [intOf]; omega
      · have HS1 : Hid (((l.take (k2 + 1)).filter fun n => decide (n.unit = id)) = T) := by show _ = _; rw [HS.out]; simp [hxa]
        have e1 : (x.unit == id) = false := beq_eq_false_iff_ne.2 hxa
        clear hxa HS
        go_wp2
        go_roundw
        case rel => exact ⟨k2 + 1, by omega, by go_num, ⟨_, _, by rw [HS1.out]⟩, by rw [HS1.out]; exact HO, HB⟩
        case measure => simp [intOf]; omega
    · obtain rfl : k2 = rn := by omega
      have ji : ¬ ((k2 : Int) < (k2 : Int)) := by omega
      have d1 := BoxN.cell (show (BoxN w.heap.size 26 #[.string (bs key), .slice ra k2 rc]) _ from hL.get (by simp)) 1 _ rfl
      rw [List.take_of_length_le (by rw [HN.out]; exact Nat.le_refl _)] at HO ⊢
      have HOf := Lib.hid (HO.out.mono HB0.out.size)
      have HBf := Lib.hid (HB0.out.trans (HB.out.mono HB0.out.size))
      clear hL HO HB
      go_wp2
      go_ret
      exact ⟨_, rfl, by rw [HE.out]; exact HOf.out, HBf.out⟩
set_option maxRecDepth 100000 in
set_option maxHeartbeats 1000000 in
theorem refSeal_any (salt : Bytes) (nv : Value) (l : List VNote) (w : World) (h : RowsAt noteK w.heap.size w nv l) (hl : l.length ≤ 1000) (hz : ∀ n ∈ l, NoteZ n) (hs : salt.length ≤ 1000000) :
    Calls Tryz.prog 55 #[.string (bs salt), nv] w fun e w' => e = .returned (.string (bs (sealB salt l))) ∧ Below w.heap.size w w' := by
  have HC := Lib.hid (refContent_any nv l w h hl hz)
  have HE : Hid (sealB salt l = nodeB salt (leafB (contentN l))) := rfl
  have hcb := contTo_bd l l.length hl hz
  rw [contTo_all] at hcb
  have hcs : (bs (contentN l)).size ≤ 70000000 := by rw [bs_size]; exact hcb
  have hss : (bs salt).size ≤ 1000000 := by rw [bs_size]; exact hs
  have hls : (bs (leafB (contentN l))).size ≤ 1000000 := by rw [bs_size, leafB_length]; omega
  clear h hz hcb hs
  go_enter Tryz.func55, Tryz.ntmps55
  go_wp2_with fail
  refine HC.out.mono ?_
  rintro e w1 ⟨rfl, hb⟩
  have HB1 := Lib.hid hb
  clear hb HC
  go_wp2_with fail
  refine (refLeaf_any (bs (contentN l)) w1 (by omega)).mono ?_
  rintro e w2 ⟨rfl, hb⟩
  rw [bs_list]
  have HB2 := Lib.hid (HB1.out.trans (hb.mono HB1.out.size))
  clear hb
  go_wp2_with fail
  refine (refNode_any (bs salt) (bs (leafB (contentN l))) w2 (by omega) (by omega)).mono ?_
  rintro e w3 ⟨rfl, hb⟩
  rw [bs_list, bs_list, ← HE.out]
  have HB3 := Lib.hid (HB2.out.trans (hb.mono HB2.out.size))
  clear hb
  go_wp2
  go_ret
  exact ⟨rfl, HB3.out⟩
set_option maxRecDepth 100000 in
set_option maxHeartbeats 1000000 in
theorem refSalt_any (key : Bytes) (id : Int) (w : World) (hk : key.length = 32) (h0 : 0 ≤ id) (h9 : id ≤ 99) :
    Calls Tryz.prog 44 #[.string (bs key), .int .i64 id] w fun e w' => e = .returned (.tuple #[.string (bs (saltB key id)), .int .i64 0]) ∧ Below w.heap.size w w' := by
  have hel := enc_length (zz id)
  have HG : Hid (saltB key id = nodeB key (leafB (enc (zz id)))) := rfl
  have hks : (bs key).size = 32 := by rw [bs_size]; exact hk
  have hks2 : (((bs key).size : Int) != 32) = false := vsize32_f hk
  have hes : (bs (enc (zz id))).size ≤ 10 := by rw [bs_size]; exact hel
  have hls : (bs (leafB (enc (zz id)))).size = 32 := by rw [bs_size]; exact leafB_length _
  have i1 : decide (id < 0) = false := by simp; omega
  have i2 : decide (99 < id) = false := by simp; omega
  have i3 : ¬ (id < 0) := by omega
  have i4 : ¬ (99 < id) := by omega
  clear hel hk
  go_enter Tryz.func44, Tryz.ntmps44
  go_wp2_with fail
  refine (refPutN_ok id w (by unfold EncZ; omega)).mono ?_
  rintro e w1 ⟨rfl, hb⟩
  generalize enc (zz id) = E at *
  have HB1 := Lib.hid hb
  clear hb
  go_wp2_with fail
  refine (refLeaf_any (bs E) w1 (by omega)).mono ?_
  rintro e w2 ⟨rfl, hb⟩
  rw [bs_list]
  have HB2 := Lib.hid (HB1.out.trans (hb.mono HB1.out.size))
  clear hb
  go_wp2_with fail
  refine (refNode_any (bs key) (bs (leafB E)) w2 (by omega) (by omega)).mono ?_
  rintro e w3 ⟨rfl, hb⟩
  rw [bs_list, bs_list, ← HG.out]
  have HB3 := Lib.hid (HB2.out.trans (hb.mono HB2.out.size))
  clear hb
  go_wp2
  go_ret2
  exact ⟨rfl, HB3.out⟩

/-- The seals of the first units. -/
def sealTo2 (d : VDos) (k : Nat) : List Bytes := (List.range k).map fun (i : Nat) => sealB (saltB d.key i) (ofL d i)
theorem sealTo2_succ (d : VDos) (k : Nat) : sealTo2 d (k + 1) = sealTo2 d k ++ [sealB (saltB d.key k) (ofL d k)] := by simp [sealTo2, List.range_succ]
theorem sealTo2_len (d : VDos) (k : Nat) : (sealTo2 d k).length = k := by simp [sealTo2]
def allTo (d : VDos) (k : Nat) : List Bytes := hashedL (sealsL d) ++ (List.range k).flatMap fun (i : Nat) => sealH (saltB d.key i) (ofL d i)
theorem allTo_succ (d : VDos) (k : Nat) : allTo d (k + 1) = allTo d k ++ [0 :: contentN (ofL d k), 1 :: (saltB d.key k ++ leafB (contentN (ofL d k)))] := by simp [allTo, List.range_succ, sealH]
theorem allTo_len (d : VDos) (k : Nat) : (allTo d k).length ≤ 201 + 2 * k := by
  have h := hashedL_bd (sealsL d)
  rw [sealsL_length] at h
  induction k with
  | zero => simp [allTo]; omega
  | succ k ih => rw [allTo_succ, List.length_append]; simp; omega
theorem sealsL_sm (d : VDos) : Sm (sealsL d) := ⟨by rw [sealsL_length]; omega, fun x hx => by
  obtain ⟨i, _, rfl⟩ := List.mem_map.1 hx
  rw [show (sealB (saltB d.key i) (ofL d i)).length = 32 from nodeB_length _ _]
  omega⟩
theorem ownS_lit2 (W : World) (base : Nat) (y z : Bytes) (hb : base ≤ W.heap.size) : OwnS base (W.alloc (.cells #[.string (bs y), .string (bs z)] 9)) (.slice (some ⟨W.heap.size, 0, none⟩) 2 2) [y, z] :=
  World.ownsRow_lit W #[.string (bs y), .string (bs z)] 2 hb (by unfold maxLen; omega) rfl
set_option maxRecDepth 100000 in
set_option maxHeartbeats 4000000 in
theorem refSeals_any (key : List UInt8) (nv : Value) (l : List VNote) (w : World) (h : RowsAt noteK w.heap.size w nv l) (hl : l.length ≤ 1000) (hz : ∀ n ∈ l, NoteZ n) (hk : key.length = 32) (hT : Rounds w) :
    Calls Tryz.prog 43 #[dosV key nv] w fun e w' => ∃ v, e = .returned v ∧ OwnS w.heap.size w' v (sealsL ⟨key, l⟩) ∧ Below w.heap.size w w' := by
  obtain ⟨ra, rc, rfl, hac, hcm⟩ := h.shape
  have HE : Hid (sealsL ⟨key, l⟩ = sealTo2 ⟨key, l⟩ 100) := rfl
  have HZo : Hid (∀ id, (ofN l id).length ≤ 1000 ∧ ∀ n ∈ ofN l id, NoteZ n) := fun id => ⟨Nat.le_trans (List.length_filter_le _ _) hl, fun n hn => hz n (List.mem_filter.1 hn).1⟩
  generalize hn : l.length = rn at *
  have HN := Lib.hid hn
  have HKy := Lib.hid hk
  have hL := (((LiveP.start hT).add (P := RowsN noteK (.slice ra rn rc) l) (keep_rows h)).alloc (.cells #[.string (bs key), .slice ra rn rc] 26)).add (P := BoxN w.heap.size 26 #[.string (bs key), .slice ra rn rc]) (keep_box (box_new w _ _))
  have HB0 := Lib.hid hL.below
  obtain ⟨V, hV⟩ : ∃ V, V = w.alloc (.cells #[.string (bs key), .slice ra rn rc] 26) := ⟨_, rfl⟩
  rw [← hV] at hL HB0
  have HL9 := Lib.hid hL.rebase
  clear hn h hT hL hz hk
  go_enter Tryz.func43, Tryz.ntmps43
  go_wp2
  rw [← hV]
  clear hV
  go_loopw [3, 4] (fun v i wr => ∃ k : Nat, k ≤ 100 ∧ i = .int .i64 k ∧ (∃ sa sc, v = .slice sa k sc) ∧ Hid (OwnS V.heap.size wr v (sealTo2 ⟨key, l⟩ k)) ∧ Hid (Below V.heap.size V wr)) (fun _ i _ => 100 - (intOf i).toNat)
  case atStart => exact ⟨0, Nat.zero_le _, rfl, ⟨_, _, rfl⟩, Lib.hid (World.ownsRow_nil _ _ _ _), Lib.hid (Below.refl _ _)⟩
  case round =>
    obtain ⟨k, hk, rfl, ⟨sa, sc, rfl⟩, HO, HB⟩ := hrel
    by_cases h1 : k < 100
    · have l0 : (k : Int) ≤ 99 := by omega
      have l1 : decide ((k : Int) ≤ 99) = true := decide_eq_true l0
      have wk : IntKind.i64.wrap ((k : Int) + 1) = (k : Int) + 1 := IntWalk.i64_in _ (by omega)
      have WK := Lib.hid wk
      have HS := Lib.hid (sealTo2_succ ⟨key, l⟩ k)
      have hLn := sealTo2_len ⟨key, l⟩ k
      have hL := HL9.out.step HB.out
      have d0 := BoxN.cell (show (BoxN w.heap.size 26 #[.string (bs key), .slice ra rn rc]) _ from hL.get (by simp)) 0 _ rfl
      have HL1 := Lib.hid hL
      clear hL HB wk
      go_wp2_with fail
      clear d0
      refine (refSalt_any key (k : Int) _ HKy.out (by omega) (by omega)).mono ?_
      rintro e w1 ⟨rfl, hb⟩
      have hL := HL1.out.step hb
      have HO1 := Lib.hid (OwnS.below HO.out hb (Nat.le_refl _))
      have d0 := BoxN.cell (show (BoxN w.heap.size 26 #[.string (bs key), .slice ra rn rc]) _ from hL.get (by simp)) 0 _ rfl
      have d1 := BoxN.cell (show (BoxN w.heap.size 26 #[.string (bs key), .slice ra rn rc]) _ from hL.get (by simp)) 1 _ rfl
      have HL2 := Lib.hid hL
      clear hL hb HL1 HO
      go_wp2_with fail
      clear d0 d1
      refine (refOf_any key _ l (k : Int) _ (show (RowsN noteK (.slice ra rn rc) l) _ from HL2.out.get (by simp)) (by rw [HN.out]; exact hl) HL2.out.rounds).mono ?_
      rintro e w2 ⟨nv', rfl, ho, hb⟩
      have hL := (HL2.out.step hb).add (P := RowsN noteK nv' (ofN l k)) (keep_rows (ho.rows noteOk))
      have HO2 := Lib.hid (OwnS.below HO1.out hb (Nat.le_refl _))
      have HL3 := Lib.hid hL
      clear hL hb ho HL2 HO1
      go_wp2_with fail
      refine (refSeal_any (saltB key (k : Int)) nv' (ofN l k) _ (show RowsN noteK nv' (ofN l k) _ from HL3.out.get (by simp)) (HZo.out k).1 (HZo.out k).2 (by rw [saltB_length]; omega)).mono ?_
      rintro e w3 ⟨rfl, hb⟩
      have HO3 := Lib.hid (OwnS.below HO2.out hb (Nat.le_refl _))
      have HB3 := Lib.hid (HL3.out.step hb).below
      clear hb HL3 HO2
      have HS : Hid (sealTo2 ⟨key, l⟩ (k + 1) = sealTo2 ⟨key, l⟩ k ++ [sealB (saltB key (k : Int)) (ofN l k)]) := HS.out
      generalize sealB (saltB key (k : Int)) (ofN l k) = z at *
      generalize sealTo2 ⟨key, l⟩ k = T at *
      have wk := WK.out
      have hz0 := HB3.out.size
      go_wp2_with (at_builtin; refine append_SS rfl _ _ rfl V.heap.size V.heap.size _ _ T [z] rfl rfl (World.ownsRow.alloc HO3.out _) (ownS_lit w3 V.heap.size z hz0) (by rw [hLn]; simp; omega) (by simp; omega) V (HB3.out.alloc hz0 _) ?_; intro v5 w5 hO5 hg5 hb5; obtain ⟨a5, c5, hsh5, _, _⟩ := hO5.shape2; rw [List.length_append, List.length_singleton, hLn] at hsh5; subst hsh5)
      have HO5 := Lib.hid hO5
      have HB5 := Lib.hid hb5
      clear hO5 hg5 hb5 HO3 HB3
      go_roundw
      case rel => exact ⟨k + 1, by omega, by go_num, ⟨_, _, rfl⟩, by rw [HS.out]; exact HO5, HB5⟩
      case measure => simp [intOf]; omega
    · obtain rfl : k = 100 := by omega
      have l0 : ¬ (((100 : Nat) : Int) ≤ 99) := by omega
      have l1 : decide (((100 : Nat) : Int) ≤ 99) = false := decide_eq_false l0
      have HOf := Lib.hid (OwnS.mono HO.out HB0.out.size)
      have HBf := Lib.hid (HB0.out.trans (HB.out.mono HB0.out.size))
      clear HO HB
      go_wp2
      go_ret
      exact ⟨_, rfl, by rw [HE.out]; exact HOf.out, HBf.out⟩
set_option maxRecDepth 100000 in
set_option maxHeartbeats 4000000 in
theorem refAll_any (key : List UInt8) (nv : Value) (l : List VNote) (w : World) (h : RowsAt noteK w.heap.size w nv l) (hl : l.length ≤ 1000) (hz : ∀ n ∈ l, NoteZ n) (hk : key.length = 32) (hT : Rounds w) :
    Calls Tryz.prog 15 #[dosV key nv] w fun e w' => ∃ v, e = .returned v ∧ OwnS w.heap.size w' v (allH ⟨key, l⟩) ∧ Below w.heap.size w w' := by
  obtain ⟨ra, rc, rfl, hac, hcm⟩ := h.shape
  have HE : Hid (allH ⟨key, l⟩ = allTo ⟨key, l⟩ 100) := rfl
  have HE0 : Hid (hashedL (sealsL ⟨key, l⟩) = allTo ⟨key, l⟩ 0) := by show _ = _; simp [allTo]
  have HZo : Hid (∀ id, (ofN l id).length ≤ 1000 ∧ ∀ n ∈ ofN l id, NoteZ n) := fun id => ⟨Nat.le_trans (List.length_filter_le _ _) hl, fun n hn => hz n (List.mem_filter.1 hn).1⟩
  have HZz := Lib.hid hz
  generalize hn : l.length = rn at *
  have HN := Lib.hid hn
  have HKy := Lib.hid hk
  have hL := (((LiveP.start hT).add (P := RowsN noteK (.slice ra rn rc) l) (keep_rows h)).alloc (.cells #[.string (bs key), .slice ra rn rc] 26)).add (P := BoxN w.heap.size 26 #[.string (bs key), .slice ra rn rc]) (keep_box (box_new w _ _))
  have d0 := BoxN.cell (show (BoxN w.heap.size 26 #[.string (bs key), .slice ra rn rc]) _ from hL.get (by simp)) 0 _ rfl
  have d1 := BoxN.cell (show (BoxN w.heap.size 26 #[.string (bs key), .slice ra rn rc]) _ from hL.get (by simp)) 1 _ rfl
  have HL9 := Lib.hid hL
  clear hn h hT hL hz hk
  go_enter Tryz.func15, Tryz.ntmps15
  go_wp2_with fail
  clear d0 d1
  refine (refSeals_any key _ l _ (show (RowsN noteK (.slice ra rn rc) l) _ from HL9.out.get (by simp)) (by rw [HN.out]; exact hl) HZz.out HKy.out HL9.out.rounds).mono ?_
  rintro e w1 ⟨sv, rfl, ho, hb⟩
  have hL := HL9.out.step hb
  have HL1 := Lib.hid hL
  have HSt := Lib.hid ho.strs
  clear hL hb ho HL9
  go_wp2_with fail
  refine (hashed_any 100 (sealsL ⟨key, l⟩) sv w1 (by rw [sealsL_length]; exact Nat.le_refl _) (sealsL_sm _) HSt.out).mono ?_
  rintro e V ⟨hv, rfl, ho, hb⟩
  rw [HE0.out] at ho
  obtain ⟨ha, hc, hx, _, _⟩ := ho.shape2
  subst hx
  have HB0 := Lib.hid HL1.out.below
  have hws := HB0.out.size
  have HOs := Lib.hid ho
  have HBs := Lib.hid hb
  have HL9 := Lib.hid HL1.out.rebase
  clear hb ho HL1 HSt
  go_wp2
  go_loopw [3, 4] (fun v i wr => ∃ k : Nat, k ≤ 100 ∧ i = .int .i64 k ∧ (∃ sa sn sc, v = .slice sa sn sc) ∧ Hid (OwnS w1.heap.size wr v (allTo ⟨key, l⟩ k)) ∧ Hid (Below w1.heap.size w1 wr)) (fun _ i _ => 100 - (intOf i).toNat)
  case atStart => exact ⟨0, Nat.zero_le _, rfl, ⟨_, _, _, rfl⟩, HOs, HBs⟩
  case round =>
    clear HOs HBs
    obtain ⟨k, hk, rfl, ⟨sa, sn, sc, rfl⟩, HO, HB⟩ := hrel
    have HL1 := Lib.hid (HL9.out.step HB.out)
    by_cases h1 : k < 100
    · have l0 : (k : Int) ≤ 99 := by omega
      have l1 : decide ((k : Int) ≤ 99) = true := decide_eq_true l0
      have wk : IntKind.i64.wrap ((k : Int) + 1) = (k : Int) + 1 := IntWalk.i64_in _ (by omega)
      have WK := Lib.hid wk
      have HS := Lib.hid (allTo_succ ⟨key, l⟩ k)
      have hLn := allTo_len ⟨key, l⟩ k
      have hcb := contTo_bd (ofN l k) (ofN l k).length (HZo.out k).1 (HZo.out k).2
      rw [contTo_all] at hcb
      have hL := HL1.out
      have d0 := BoxN.cell (show (BoxN w.heap.size 26 #[.string (bs key), .slice ra rn rc]) _ from hL.get (by simp)) 0 _ rfl
      clear hL wk
      go_wp2_with fail
      clear d0
      refine (refSalt_any key (k : Int) _ HKy.out (by omega) (by omega)).mono ?_
      rintro e w3 ⟨rfl, hb⟩
      have hL := HL1.out.step hb
      have HO1 := Lib.hid (OwnS.below HO.out hb (Nat.le_refl _))
      have d0 := BoxN.cell (show (BoxN w.heap.size 26 #[.string (bs key), .slice ra rn rc]) _ from hL.get (by simp)) 0 _ rfl
      have d1 := BoxN.cell (show (BoxN w.heap.size 26 #[.string (bs key), .slice ra rn rc]) _ from hL.get (by simp)) 1 _ rfl
      have HL2 := Lib.hid hL
      clear hL hb HL1 HO
      go_wp2_with fail
      clear d0 d1
      refine (refOf_any key _ l (k : Int) _ (show (RowsN noteK (.slice ra rn rc) l) _ from HL2.out.get (by simp)) (by rw [HN.out]; exact hl) HL2.out.rounds).mono ?_
      rintro e w4 ⟨nv', rfl, ho, hb⟩
      have hL := (HL2.out.step hb)
      have HNv := Lib.hid (ho.rows noteOk)
      have HO2 := Lib.hid (OwnS.below HO1.out hb (Nat.le_refl _))
      have HL3 := Lib.hid hL
      clear hL hb ho HL2 HO1
      go_wp2_with fail
      refine (refContent_any nv' (ofN l k) _ HNv.out (HZo.out k).1 (HZo.out k).2).mono ?_
      rintro e w5 ⟨rfl, hb⟩
      have HO3 := Lib.hid (OwnS.below HO2.out hb (Nat.le_refl _))
      have HL4 := Lib.hid (HL3.out.step hb)
      clear hb HL3 HO2 HNv
      have HS : Hid (allTo ⟨key, l⟩ (k + 1) = allTo ⟨key, l⟩ k ++ [0 :: contentN (ofN l k), 1 :: (saltB key k ++ leafB (contentN (ofN l k)))]) := HS.out
      have hsl := saltB_length key (k : Int)
      have hll := leafB_length (contentN (ofN l k))
      generalize contentN (ofN l k) = C at *
      generalize saltB key (k : Int) = S at *
      have hcs : (bs C).size ≤ 70000000 := by rw [bs_size]; exact hcb
      have hss : (bs S).size = 32 := by rw [bs_size]; exact hsl
      have hls : (bs (leafB C)).size = 32 := by rw [bs_size]; exact hll
      have HC0 := Lib.hid (cat_bs1 0 C)
      have HC1 : Hid ((⟨#[1]⟩ : ByteArray) ++ bs S ++ bs (leafB C) = bs (1 :: (S ++ leafB C))) := by show _ = _; rw [cat_bs1, cat_bs]; rfl
      have s1 : ¬ (9223372036854775807 < 1 + (bs C).size) := by omega
      have s2 : ¬ (9223372036854775807 < 1 + (bs S).size) := by omega
      have s3 : ¬ (9223372036854775807 < 1 + (bs S).size + (bs (leafB C)).size) := by omega
      clear hcb hsl hll
      go_wp2_with fail
      refine (refLeaf_any (bs C) w5 (by omega)).mono ?_
      rintro e w6 ⟨rfl, hb⟩
      rw [bs_list]
      have HO4 := Lib.hid (OwnS.below HO3.out hb (Nat.le_refl _))
      have hL := HL4.out.step hb
      have HB6 := Lib.hid hL.below
      clear hb HL4 HO3 hL
      rw [HC0.out]
      generalize leafB C = F at *
      generalize allTo ⟨key, l⟩ k = T at *
      have wk := WK.out
      have hz0 := HB6.out.size
      have HLi := Lib.hid (ownS_lit2 w6 w1.heap.size (0 :: C) (1 :: (S ++ F)) hz0)
      rw [← HC1.out] at HLi
      generalize bs (0 :: C) = Y0 at *
      go_wp2_with (at_builtin; refine append_SS rfl _ _ rfl w1.heap.size w1.heap.size _ _ T [0 :: C, 1 :: (S ++ F)] rfl rfl (World.ownsRow.alloc HO4.out _) HLi.out (by simp; omega) (by simp; omega) w1 (HB6.out.alloc hz0 _) ?_; intro v5 w8 hO5 hg5 hb5; obtain ⟨a5, c5, hsh5, _, _⟩ := hO5.shape2; subst hsh5)
      have HO5 := Lib.hid hO5
      have HB5 := Lib.hid hb5
      clear hO5 hg5 hb5 HO4 HB6
      go_roundw
      case rel => exact ⟨k + 1, by omega, by go_num, ⟨_, _, _, rfl⟩, by rw [HS.out]; have h := HO5.out; rw [List.length_append] at h; exact Lib.hid h, HB5⟩
      case measure => simp [intOf]; omega
    · obtain rfl : k = 100 := by omega
      have l0 : ¬ (((100 : Nat) : Int) ≤ 99) := by omega
      have l1 : decide (((100 : Nat) : Int) ≤ 99) = false := decide_eq_false l0
      have HBf := Lib.hid (HB0.out.trans (HB.out.mono hws))
      have HOf := Lib.hid (OwnS.mono HO.out hws)
      clear HL1 HO HB
      go_wp2
      go_ret
      exact ⟨_, rfl, by rw [HE.out]; exact HOf.out, HBf.out⟩
end Go.Proofs.YteicimmdcdjagaaGreatDoor
end

section
/- The reference's Hashed of a page. -/
set_option linter.unusedVariables false
set_option linter.unusedSimpArgs false
namespace Go.Proofs.YteicimmdcdjagaaGreatDoor
open Go.RowKit Go.Shelf

/-- What is hashed for a page, in the reference's order. -/
def pageHF (u : Nat) (l : List VNote) (s : Bytes) (ps : List Bytes) : List Bytes := sealH s l ++ (wayF ps.reverse 100 u (sealB s l)).1
theorem pageHF_mem {u : Nat} {l : List VNote} {s : Bytes} {ps : List Bytes} {x : Bytes} : x ∈ pageHF u l s ps ↔ x ∈ pageH ⟨u, l, s, ps⟩ := by
  unfold pageHF pageH wayF
  simp only [List.mem_append, List.mem_reverse, Int.toNat_natCast]
theorem meetB_mem {a b c d : List Bytes} (h1 : ∀ x, x ∈ a ↔ x ∈ c) (h2 : ∀ x, x ∈ b ↔ x ∈ d) : meetB a b = meetB c d := by
  rw [Bool.eq_iff_iff, meetB_iff, meetB_iff]
  constructor
  · rintro ⟨x, hx, y, hy, h⟩
    exact ⟨x, (h1 x).1 hx, y, (h2 y).1 hy, h⟩
  · rintro ⟨x, hx, y, hy, h⟩
    exact ⟨x, (h1 x).2 hx, y, (h2 y).2 hy, h⟩
theorem pageHF_meet {u : Nat} {l m : List VNote} {s t : Bytes} {p q : List Bytes} {v : Nat} : meetB (pageHF u l s p) (pageHF v m t q) = meetB (pageH ⟨u, l, s, p⟩) (pageH ⟨v, m, t, q⟩) := meetB_mem (fun _ => pageHF_mem) (fun _ => pageHF_mem)
/-- What the steps of the regions leave. -/
def HshF (B : Nat) (y z : Bytes) (f : ByteArray) : Nat → Value → World → Prop := fun k v W => if k = 6 then v = .string f else ∃ g, v = .slice (some ⟨g, 0, none⟩) 2 2 ∧ OwnS B W v [y, z]
theorem hshF_kept {B k : Nat} {y z : Bytes} {f : ByteArray} {v : Value} {W W' : World} (h : HshF B y z f k v W) (hg : W.grownBy W' none) : HshF B y z f k v W' := by
  unfold HshF at h ⊢
  split at h
  · rename_i hk; rw [if_pos hk]; exact h
  · rename_i hk; rw [if_neg hk]
    obtain ⟨g, h1, h2⟩ := h
    exact ⟨g, h1, ownS_kept h2 hg (fun g h => by cases h)⟩
def HshG (B : Nat) (l : List Bytes) (f g : ByteArray) : Nat → Value → World → Prop := fun k v W => if k = 6 then v = .string f else ∃ rv, v = .tuple #[rv, .string g] ∧ OwnS B W rv l
theorem hshG_kept {B k : Nat} {l : List Bytes} {f g : ByteArray} {v : Value} {W W' : World} (h : HshG B l f g k v W) (hg : W.grownBy W' none) : HshG B l f g k v W' := by
  unfold HshG at h ⊢
  split at h
  · rename_i hk; rw [if_pos hk]; exact h
  · rename_i hk; rw [if_neg hk]
    obtain ⟨rv, h1, h2⟩ := h
    exact ⟨rv, h1, ownS_kept h2 hg (fun g h => by cases h)⟩
set_option maxRecDepth 100000 in
set_option maxHeartbeats 4000000 in
theorem refPageH_any (u : Nat) (nv : Value) (l : List VNote) (s : Bytes) (pv : Value) (ps : List Bytes) (w : World) (h : RowsAt noteK w.heap.size w nv l) (hl : l.length ≤ 1000) (hz : ∀ n ∈ l, NoteZ n) (hs : s.length ≤ 1000) (hp : StrsAt w.heap.size w pv ps)
    (hpe : ∀ x ∈ ps, x.length ≤ 1000) (hpl : ps.length ≤ 1000000) (hu : u < 100) (hT : Rounds w) :
    Calls Tryz.prog 24 #[pageV u nv s pv] w fun e w' => ∃ v, e = .returned v ∧ OwnS w.heap.size w' v (pageHF u l s ps) ∧ Below w.heap.size w w' := by
  obtain ⟨na, nc, rfl, hlc, hcm⟩ := h.shape
  obtain ⟨pa, pc, rfl, hpc1, hpc2⟩ := hp.shape
  have HE : Hid (pageHF u l s ps = [0 :: contentN l, 1 :: (s ++ leafB (contentN l))] ++ (wayF ps.reverse 100 u (sealB s l)).1) := rfl
  have hcb := contTo_bd l l.length hl hz
  rw [contTo_all] at hcb
  have hll := leafB_length (contentN l)
  have HNl := Lib.hid (⟨hl, hz, hs⟩ : l.length ≤ 1000 ∧ (∀ n ∈ l, NoteZ n) ∧ s.length ≤ 1000)
  have HPl := Lib.hid (⟨fun x hx => hpe x (List.mem_reverse.1 hx), by rw [List.length_reverse]; exact hpl⟩ : (∀ x ∈ ps.reverse, x.length ≤ 1000) ∧ ps.reverse.length ≤ 1000000)
  have hwl := (wayF_len ps.reverse 100 u (sealB s l)).1
  rw [List.length_reverse] at hwl
  have hsl : (sealB s l).length = 32 := nodeB_length _ _
  have HLl : Hid (l.length ≤ 1000) := hl
  generalize hnn : l.length = nn at *
  have HLe := Lib.hid hnn
  clear hnn
  generalize ps.length = pn at *
  have hL := ((((LiveP.start hT).add (P := RowsN noteK (.slice na nn nc) l) (keep_rows h)).add (P := StrsN (.slice pa pn pc) ps) (keep_strs hp)).alloc (.cells #[.int .i64 (u : Int), .slice na nn nc, .string (bs s), .slice pa pn pc] 39)).add (P := BoxN w.heap.size 39 #[.int .i64 (u : Int), .slice na nn nc, .string (bs s), .slice pa pn pc]) (keep_box (box_new w _ _))
  have p1 := BoxN.cell (show (BoxN w.heap.size 39 #[.int .i64 (u : Int), .slice na nn nc, .string (bs s), .slice pa pn pc]) _ from hL.get (by simp)) 1 _ rfl
  have HL0 := Lib.hid hL
  clear h hp hT hL hl hz hpe
  go_enter Tryz.func24, Tryz.ntmps24
  go_wp2_with fail
  clear p1
  refine (refContent_any _ l _ (show (RowsN noteK (.slice na nn nc) l) _ from HL0.out.get (by simp)) (by rw [HLe.out]; exact HLl.out) HNl.out.2.1).mono ?_
  rintro e w1 ⟨rfl, hb⟩
  have HL1 := Lib.hid (HL0.out.step hb)
  clear hb HL0
  obtain ⟨C, hC⟩ : ∃ C, C = contentN l := ⟨_, rfl⟩
  rw [← hC] at HE hcb hll
  rw [← hC]
  have HCe := Lib.hid hC
  clear hC
  have hcs : (bs C).size ≤ 70000000 := by rw [bs_size]; exact hcb
  have hss : (bs s).size ≤ 1000 := by rw [bs_size]; exact hs
  have hls : (bs (leafB C)).size = 32 := by rw [bs_size]; exact hll
  have HC0 := Lib.hid (cat_bs1 0 C)
  have HC1 := Lib.hid (cat_bs1 1 s)
  have HC2 : Hid (bs (1 :: s) ++ bs (leafB C) = bs (1 :: (s ++ leafB C))) := by show _ = _; rw [cat_bs]; rfl
  have hts : (bs (1 :: s)).size ≤ 1001 := by rw [bs_size, List.length_cons]; omega
  have s1 : ¬ (9223372036854775807 < 1 + (bs C).size) := by omega
  have s2 : ¬ (9223372036854775807 < 1 + (bs s).size) := by omega
  have s3 : ¬ (9223372036854775807 < (bs (1 :: s)).size + (bs (leafB C)).size) := by omega
  have S1 := Lib.hid s1; have S2 := Lib.hid s2; have S3 := Lib.hid s3
  have HQ : Hid (∀ W, w1.grownBy W none → W.cell? ⟨w.heap.size, 2, none⟩ = some (.string (bs s))) := fun W hW => by
    have h := HL1.out.step (grown_below hW)
    exact BoxN.cell (show (BoxN w.heap.size 39 #[.int .i64 (u : Int), .slice na nn nc, .string (bs s), .slice pa pn pc]) _ from h.get (by simp)) 2 _ rfl
  have HTs := Lib.hid hts
  clear hcb hll s1 s2 s3 hts
  go_wp2
  refine wp_region_calm ⟨[6, 8], HshF w1.heap.size (0 :: C) (1 :: (s ++ leafB C)) (bs (leafB C)), fun _ => [], 99, none, 1000⟩ (by kernel_rfl) (by kernel_rfl) (by kernel_rfl) (fun g h => by cases h) (fun q hq v W W' c h hg hc => ?_) ?_
  · cases c with
    | some g => obtain ⟨_, _, i, j, u, hd, _⟩ := hc g rfl; simp at hd
    | none => exact hshF_kept h hg
  iterate 1 (refine calm_quiet (v := ?_) (by rfl) (by rfl) (fun W hW hD => ?_) ?_; rotate_left; (· (clear hD hW; go_simp; try with_reducible rfl)); simp only [Act.put, List.setIfInBounds_toArray, List.set_cons_zero, List.set_cons_succ, Nat.reduceAdd, Nat.zero_add])
  refine calm_quiet (v := .string (bs (0 :: C))) (by rfl) (by rfl) (fun W hW hD => ?_) ?_
  · have s1 := S1.out
    clear hD hW
    rw [← HC0.out]
    go_simp
  simp only [Act.put, List.setIfInBounds_toArray, List.set_cons_zero, List.set_cons_succ, Nat.reduceAdd, Nat.zero_add]
  iterate 1 (refine calm_quiet (v := ?_) (by rfl) (by rfl) (fun W hW hD => ?_) ?_; rotate_left; (· (clear hD hW; go_simp; try with_reducible rfl)); simp only [Act.put, List.setIfInBounds_toArray, List.set_cons_zero, List.set_cons_succ, Nat.reduceAdd, Nat.zero_add])
  iterate 1 (refine calm_quiet (v := ?_) (by rfl) (by rfl) (fun W hW hD => ?_) ?_; rotate_left; (· (have z := HQ.out W hW; clear hD hW; go_simp; try with_reducible rfl)); simp only [Act.put, List.setIfInBounds_toArray, List.set_cons_zero, List.set_cons_succ, Nat.reduceAdd, Nat.zero_add])
  refine calm_quiet (v := .string (bs (1 :: s))) (by rfl) (by rfl) (fun W hW hD => ?_) ?_
  · have s2 := S2.out
    clear hD hW
    rw [← HC1.out]
    go_simp
  simp only [Act.put, List.setIfInBounds_toArray, List.set_cons_zero, List.set_cons_succ, Nat.reduceAdd, Nat.zero_add]
  iterate 1 (refine calm_quiet (v := ?_) (by rfl) (by rfl) (fun W hW hD => ?_) ?_; rotate_left; (· (clear hD hW; go_simp; try with_reducible rfl)); simp only [Act.put, List.setIfInBounds_toArray, List.set_cons_zero, List.set_cons_succ, Nat.reduceAdd, Nat.zero_add])
  refine calm_makes (by rfl) (by rfl) (fun W hW hD Kc hK => ?_) (fun v16 => ?_)
  · refine wp_of_call (f := 46) ?_ ((refLeaf_any (bs C) W (by omega)).mono ?_)
    · clear hD hW hK
      go_simp
    · rintro e w5 ⟨rfl, hb5⟩
      rw [bs_list]
      exact ⟨_, rfl, hK _ _ (made_plain (by exact (rfl : (Value.string (bs (leafB C))) = .string (bs (leafB C)))) hb5 rfl)⟩
  simp only [Act.put, List.setIfInBounds_toArray, List.set_cons_zero, List.set_cons_succ, Nat.reduceAdd, Nat.zero_add]
  refine calm_quiet (v := .string (bs (1 :: (s ++ leafB C)))) (by rfl) (by rfl) (fun W hW hD => ?_) ?_
  · obtain rfl : v16 = .string (bs (leafB C)) := hD [] 6 (by kernel_rfl) (by kernel_rfl) (by kernel_rfl)
    have s3 := S3.out
    have hts := HTs.out
    clear hD hW
    rw [← HC2.out]
    go_simp
    try omega
  simp only [Act.put, List.setIfInBounds_toArray, List.set_cons_zero, List.set_cons_succ, Nat.reduceAdd, Nat.zero_add]
  refine calm_makes (by rfl) (by rfl) (fun W hW hD Kc hK => ?_) (fun v18 => ?_)
  · have hlit := ownS_lit2 W w1.heap.size (0 :: C) (1 :: (s ++ leafB C)) hW.size
    refine wp_of_run (v := .slice (some ⟨W.heap.size, 0, none⟩) 2 2) (w' := W.alloc (.cells #[.string (bs (0 :: C)), .string (bs (1 :: (s ++ leafB C)))] 9)) ?_ (hK _ _ (made_below ⟨W.heap.size, rfl, hlit⟩ ((Below.refl _ _).alloc (Nat.le_refl _) _) (fun g hg => ?_)))
    · clear hD hW hK hlit
      go_simp
    · have hg' : some W.heap.size = some g := hg
      cases hg'
      exact ⟨Nat.le_refl _, by simp⟩
  simp only [Act.put, List.setIfInBounds_toArray, List.set_cons_zero, List.set_cons_succ, Nat.reduceAdd, Nat.zero_add]
  iterate 1 (refine calm_quiet (v := ?_) (by rfl) (by rfl) (fun W hW hD => ?_) ?_; rotate_left; (· (clear hD hW; go_simp; try with_reducible rfl)); simp only [Act.put, List.setIfInBounds_toArray, List.set_cons_zero, List.set_cons_succ, Nat.reduceAdd, Nat.zero_add])
  refine calm_nil fun W hW hF => ?_
  obtain ⟨g, rfl, hrow⟩ : ∃ g, v18 = .slice (some ⟨g, 0, none⟩) 2 2 ∧ OwnS w1.heap.size W v18 [0 :: C, 1 :: (s ++ leafB C)] := hF 8 (by kernel_rfl) (by kernel_rfl)
  have HL2 := Lib.hid (HL1.out.step (grown_below hW))
  have HRw := Lib.hid hrow
  have hz12 := hW.size
  have hz01 := HL1.out.below.size
  have HC := Lib.hid (refSeal_any s (.slice na nn nc) l)
  obtain ⟨B, hB⟩ : ∃ B, B = sealB s l := ⟨_, rfl⟩
  rw [← hB] at HE HC hwl hsl
  have HWy := Lib.hid (fun (W : World) h => refWay_any ps.reverse 100 u B (.slice pa pn pc) W (by omega) (by omega) (by omega) HPl.out.1 HPl.out.2 h)
  rw [List.reverse_reverse] at HWy
  have HQ : Hid (∀ W', W.grownBy W' none → W'.cell? ⟨w.heap.size, 0, none⟩ = some (.int .i64 (u : Int)) ∧ W'.cell? ⟨w.heap.size, 1, none⟩ = some (.slice na nn nc) ∧ W'.cell? ⟨w.heap.size, 2, none⟩ = some (.string (bs s)) ∧ W'.cell? ⟨w.heap.size, 3, none⟩ = some (.slice pa pn pc)) := fun W' hW => by
    have h := HL2.out.step (grown_below hW)
    have h := (show (BoxN w.heap.size 39 #[.int .i64 (u : Int), .slice na nn nc, .string (bs s), .slice pa pn pc]) _ from h.get (by simp))
    exact ⟨BoxN.cell h 0 _ rfl, BoxN.cell h 1 _ rfl, BoxN.cell h 2 _ rfl, BoxN.cell h 3 _ rfl⟩
  clear hF hW hrow HL1 hB hcs hss hls
  go_wp2
  generalize wayF ps.reverse 100 u B = Y at *
  obtain ⟨Y1, Y2⟩ := Y
  simp only at HE HWy hwl
  refine wp_region_calm ⟨[6, 9], HshG W.heap.size Y1 (bs B) (bs Y2), fun _ => [], 99, none, 1000⟩ (by kernel_rfl) (by kernel_rfl) (by kernel_rfl) (fun g h => by cases h) (fun q hq v W W' c h hg hc => ?_) ?_
  · cases c with
    | some g => obtain ⟨_, _, i, j, u, hd, _⟩ := hc g rfl; simp at hd
    | none => exact hshG_kept h hg
  iterate 6 (refine calm_quiet (v := ?_) (by rfl) (by rfl) (fun W hW hD => ?_) ?_; rotate_left; (· (obtain ⟨x0, x1, x2, x3⟩ := HQ.out W hW; clear hD hW; go_simp; try with_reducible rfl)); simp only [Act.put, List.setIfInBounds_toArray, List.set_cons_zero, List.set_cons_succ, Nat.reduceAdd, Nat.zero_add])
  refine calm_makes (by rfl) (by rfl) (fun W' hW hD Kc hK => ?_) (fun v26 => ?_)
  · have h := HL2.out.step (grown_below hW)
    refine wp_of_call (f := 55) (args := #[.string (bs s), .slice na nn nc]) ?_ ((HC.out W' (show (RowsN noteK (.slice na nn nc) l) _ from h.get (by simp)) (by rw [HLe.out]; exact HLl.out) HNl.out.2.1 (by omega)).mono ?_)
    · clear hD hW hK h
      go_simp
    · rintro e w5 ⟨rfl, hb5⟩
      exact ⟨_, rfl, hK _ _ (made_plain (by exact (rfl : (Value.string (bs B)) = .string (bs B))) hb5 rfl)⟩
  simp only [Act.put, List.setIfInBounds_toArray, List.set_cons_zero, List.set_cons_succ, Nat.reduceAdd, Nat.zero_add]
  iterate 2 (refine calm_quiet (v := ?_) (by rfl) (by rfl) (fun W hW hD => ?_) ?_; rotate_left; (· (obtain ⟨x0, x1, x2, x3⟩ := HQ.out W hW; clear hD hW; go_simp; try with_reducible rfl)); simp only [Act.put, List.setIfInBounds_toArray, List.set_cons_zero, List.set_cons_succ, Nat.reduceAdd, Nat.zero_add])
  refine calm_makes (by rfl) (by rfl) (fun W' hW hD Kc hK => ?_) (fun v29 => ?_)
  · obtain rfl : v26 = .string (bs B) := hD [] 6 (by kernel_rfl) (by kernel_rfl) (by kernel_rfl)
    have h := HL2.out.step (grown_below hW)
    have hws := hW.size
    refine wp_of_call (f := 54) (args := #[.int .i64 ((100 : Nat) : Int), .int .i64 (u : Int), .string (bs B), .slice pa pn pc]) ?_ ((HWy.out W' (show (StrsN (.slice pa pn pc) ps) _ from h.get (by simp))).mono ?_)
    · clear hD hW hK h
      go_simp
    · rintro e w5 ⟨rv, rfl, ho, hb5⟩
      exact ⟨_, rfl, hK _ _ (made_plain (by exact (⟨rv, rfl, OwnS.mono ho hws⟩ : ∃ rv', (Value.tuple #[rv, .string (bs Y2)]) = .tuple #[rv', .string (bs Y2)] ∧ OwnS W.heap.size w5 rv' Y1)) hb5 rfl)⟩
  simp only [Act.put, List.setIfInBounds_toArray, List.set_cons_zero, List.set_cons_succ, Nat.reduceAdd, Nat.zero_add]
  iterate 1 (refine calm_quiet (v := ?_) (by rfl) (by rfl) (fun W hW hD => ?_) ?_; rotate_left; (· (clear hD hW; go_simp; try with_reducible rfl)); simp only [Act.put, List.setIfInBounds_toArray, List.set_cons_zero, List.set_cons_succ, Nat.reduceAdd, Nat.zero_add])
  refine calm_quiet (v := vtupAt v29 0) (by rfl) (by rfl) (fun W' hW hD => ?_) ?_
  · obtain ⟨rv, rfl, _⟩ : ∃ rv, v29 = .tuple #[rv, .string (bs Y2)] ∧ OwnS W.heap.size W' rv Y1 := hD [10] 9 (by kernel_rfl) (by kernel_rfl) (by kernel_rfl)
    clear hD hW
    go_simp
    try rfl
  simp only [Act.put, List.setIfInBounds_toArray, List.set_cons_zero, List.set_cons_succ, Nat.reduceAdd, Nat.zero_add]
  refine calm_quiet (v := vtupAt v29 1) (by rfl) (by rfl) (fun W' hW hD => ?_) ?_
  · obtain ⟨rv, rfl, _⟩ : ∃ rv, v29 = .tuple #[rv, .string (bs Y2)] ∧ OwnS W.heap.size W' rv Y1 := hD [10] 9 (by kernel_rfl) (by kernel_rfl) (by kernel_rfl)
    clear hD hW
    go_simp
    try rfl
  simp only [Act.put, List.setIfInBounds_toArray, List.set_cons_zero, List.set_cons_succ, Nat.reduceAdd, Nat.zero_add]
  iterate 2 (refine calm_quiet (v := ?_) (by rfl) (by rfl) (fun W hW hD => ?_) ?_; rotate_left; (· (clear hD hW; go_simp; try with_reducible rfl)); simp only [Act.put, List.setIfInBounds_toArray, List.set_cons_zero, List.set_cons_succ, Nat.reduceAdd, Nat.zero_add])
  refine calm_nil fun W' hW hF => ?_
  obtain ⟨rv, rfl, hrv⟩ : ∃ rv, v29 = .tuple #[rv, .string (bs Y2)] ∧ OwnS W.heap.size W' rv Y1 := hF 9 (by kernel_rfl) (by kernel_rfl)
  rw [show vtupAt (.tuple #[rv, .string (bs Y2)]) 0 = rv from rfl, show vtupAt (.tuple #[rv, .string (bs Y2)]) 1 = .string (bs Y2) from rfl]
  obtain ⟨ya, yc, hx, _, _⟩ := hrv.shape2
  subst hx
  have hrow := ownS_kept HRw.out hW (fun g h => by cases h)
  have HO1 := Lib.hid (OwnS.mono hrow hz01)
  have HO2 := Lib.hid hrv
  have HB2 := Lib.hid (HL2.out.step (grown_below hW)).below
  have hzz := HB2.out.size
  clear hF hW hrow hrv HL2 HQ HRw HC HWy
  go_wp2_with (at_builtin; refine append_SS rfl _ _ rfl w.heap.size W.heap.size _ _ [0 :: C, 1 :: (s ++ leafB C)] Y1 rfl rfl HO1.out HO2.out (by simp; omega) hzz w HB2.out ?_; intro v5 w8 hO5 hg5 hb5; have HO5 := Lib.hid hO5; have HB5 := Lib.hid hb5; clear hO5 hg5 hb5)
  go_ret
  exact ⟨_, rfl, by rw [HE.out]; exact HO5.out, HB5.out⟩
end Go.Proofs.YteicimmdcdjagaaGreatDoor
end

section
/- Plain facts for ViewHides and ViewComplete. -/
set_option linter.unusedVariables false
set_option linter.unusedSimpArgs false
namespace Go.Proofs.YteicimmdcdjagaaGreatDoor
open Go.RowKit Go.Shelf

theorem notesC_few : ∀ (l : List VNote), (∀ n ∈ l, noteB n = true) → (notesC l).length ≤ 130 * l.length
  | [], _ => by simp [notesC]
  | x :: t, h => by
    have ih := notesC_few t (fun n hn => h n (List.mem_cons_of_mem _ hn))
    have hx := h x (List.mem_cons_self ..)
    simp only [noteB, Bool.and_eq_true, decide_eq_true_eq] at hx
    have h1 := enc_length (zz x.day)
    have h2 := enc_length (zz x.kind)
    have h3 := enc_length (zz (x.text.length : Int))
    have e : notesC (x :: t) = enc (zz x.day) ++ (enc (zz x.kind) ++ encS x.text) ++ notesC t := by simp [notesC, noteC]
    rw [e]
    simp only [List.length_append, List.length_cons, encS]
    omega
theorem contentN_few {l : List VNote} (h : notesB l = true) : (contentN l).length ≤ 8000 := by
  obtain ⟨h1, _, h3⟩ := notesB_ok h
  have h4 := enc_length (zz (l.length : Int))
  have h2 := notesC_few l h1
  unfold contentN
  rw [List.length_append]
  omega
theorem sealH_few {s : Bytes} {l : List VNote} (hs : s.length ≤ 1000) (h : notesB l = true) : ∀ x ∈ sealH s l, x.length ≤ 1000000 := fun x hx => by
  have hc := contentN_few h
  have hf := leafB_length (contentN l)
  simp only [sealH, List.mem_cons, List.not_mem_nil, or_false] at hx
  rcases hx with rfl | rfl
  · rw [List.length_cons]; omega
  · rw [List.length_cons, List.length_append]; omega
theorem notesB_of_dos {K : List UInt8} {l : List VNote} (hd : dosB ⟨K, l⟩ = true) (u : Int) : notesB (ofN l u) = true := by
  obtain ⟨h1, h2, h3, h4⟩ := dosB_ok hd
  exact notesB_of (fun n hn => h2 n (List.mem_filter.1 hn).1) (h3.filter _) (Nat.le_trans (List.length_filter_le _ _) h4)
theorem allH_few {K : List UInt8} {l : List VNote} (hd : dosB ⟨K, l⟩ = true) : (∀ x ∈ allH ⟨K, l⟩, x.length ≤ 1000000) ∧ (allH ⟨K, l⟩).length ≤ 1000000 := by
  refine ⟨fun x hx => ?_, ?_⟩
  · rcases List.mem_append.1 hx with h | h
    · have := hashedL_el (sealsL ⟨K, l⟩).length (sealsL ⟨K, l⟩) (Nat.le_refl _) (sealsL_sm _).2 x h
      omega
    · obtain ⟨i, _, hi⟩ := List.mem_flatMap.1 h
      exact sealH_few (by rw [saltB_length]; omega) (notesB_of_dos hd i) x hi
  · have := allTo_len ⟨K, l⟩ 100
    have e : allTo ⟨K, l⟩ 100 = allH ⟨K, l⟩ := rfl
    rw [e] at this
    omega
theorem pageHF_few {u : Nat} {l : List VNote} {s : Bytes} {ps : List Bytes} (h : notesB l = true) (hs : s.length ≤ 1000) (hp : ∀ x ∈ ps, x.length ≤ 1000) (hl : ps.length ≤ 1000) : (∀ x ∈ pageHF u l s ps, x.length ≤ 1000000) ∧ (pageHF u l s ps).length ≤ 1000000 := by
  refine ⟨fun x hx => ?_, ?_⟩
  · rcases List.mem_append.1 hx with h' | h'
    · exact sealH_few hs h x h'
    · refine wayR_el ps.reverse 100 u (sealB s l) (by rw [show (sealB s l).length = 32 from nodeB_length _ _]; omega) (fun x hx => hp x (List.mem_reverse.1 hx)) x ?_
      unfold wayF at h'
      exact List.mem_reverse.1 h'
  · unfold pageHF
    rw [List.length_append]
    have := (wayF_len ps.reverse 100 u (sealB s l)).1
    rw [List.length_reverse] at this
    simp only [sealH, List.length_cons, List.length_nil]
    omega
theorem dos_binds {K J : List UInt8} {l m : List VNote} (hd : dosB ⟨K, l⟩ = true) (he : dosB ⟨J, m⟩ = true) (h : rootL (sealsL ⟨K, l⟩) = rootL (sealsL ⟨J, m⟩)) (hne : l ≠ m) : meetB (allH ⟨K, l⟩) (allH ⟨J, m⟩) = true := by
  rcases dos_bind (lt := fun a b => ltN a b = true) (fun a h => by rw [ltN_irr] at h; cases h) (fun a b h g => by rw [ltN_asym h] at g; cases g) (dosB_dos hd) (dosB_dos he) h with ⟨h1, _⟩ | h
  · exact absurd h1 hne
  · exact h
/-- What Check says of a page with notes about its unit. -/
theorem check_page {K : List UInt8} {l : List VNote} {R S : Bytes} {n : Nat} {q : List Bytes} (hd : dosB ⟨K, l⟩ = true) (hn : n < 100) (hS : S.length = 32) : checkB R ⟨(n : Int), ofN l n, S, q⟩ = verB R 100 (n : Int) (sealB S (ofN l n)) q := by
  have h1 : inZ (n : Int) 0 99 = true := by simp [inZ]; omega
  have h2 := notesB_of_dos hd n
  have h3 : ((ofN l n).any fun x => x.unit != (n : Int)) = false := by
    rw [List.any_eq_false]
    intro x hx
    have := (List.mem_filter.1 hx).2
    simp only [decide_eq_true_eq] at this
    simp [this]
  unfold checkB
  simp only [h1, h2, h3, hS, Bool.true_and, Bool.not_false, decide_true]
/-- All that ViewHides needs, of two dossiers with the same notes about a unit. -/
theorem hides_all {K : List UInt8} {l T : List VNote} {n : Nat} {A : List VNote} {R S : Bytes} {P Q : List Bytes} (hd : dosB ⟨K, l⟩ = true) (he : dosB ⟨K, T⟩ = true) (hn : n < 100) (hA : ofN l n = A) (hT : ofN T n = A) (hS : saltB K n = S)
    (hP : proofL (sealsL ⟨K, l⟩) n = P) (hQ : proofL (sealsL ⟨K, T⟩) n = Q) (hR : rootL (sealsL ⟨K, l⟩) = R) :
    P.length = Q.length ∧ (∀ x ∈ P, x.length = 32) ∧ (∀ x ∈ Q, x.length = 32) ∧ (l = T → P = Q) ∧ (l ≠ T → P = Q → meetB (allH ⟨K, l⟩) (allH ⟨K, T⟩) = true) ∧ (P = Q → checkB R ⟨(n : Int), A, S, Q⟩ = true) ∧
    (P ≠ Q → checkB R ⟨(n : Int), A, S, Q⟩ = true → meetB (pageHF n A S P) (pageHF n A S Q) = true) ∧ P.length ≤ 1000 := by
  have hof : ofL ⟨K, l⟩ (n : Int) = ofL ⟨K, T⟩ (n : Int) := hA.trans hT.symm
  have hc : ∀ q, checkB R ⟨(n : Int), A, S, q⟩ = verB R 100 (n : Int) (sealB S A) q := fun q => by
    have := check_page (R := R) (q := q) hd hn (show S.length = 32 by rw [← hS]; exact saltB_length _ _)
    rwa [hA] at this
  have hpl := (sealsL_length ⟨K, l⟩)
  refine ⟨?_, ?_, ?_, ?_, ?_, ?_, ?_, ?_⟩
  · rw [← hP, ← hQ]; exact pages_len ⟨K, l⟩ ⟨K, T⟩ hn
  · rw [← hP]; exact proofL_dig _ _ _ (Nat.le_refl _)
  · rw [← hQ]; exact proofL_dig _ _ _ (Nat.le_refl _)
  · intro h; rw [← hP, ← hQ, h]
  · intro hne hpq
    refine dos_binds hd he ?_ hne
    exact alike_root (d := ⟨K, l⟩) (e := ⟨K, T⟩) hn rfl hof (by rw [hP, hQ, hpq])
  · intro hpq
    have h := page_ok ⟨K, l⟩ hn
    rw [hc, ← hpq, ← hP, ← hS, ← hA, ← hR]
    exact h
  · intro hpq hch
    rw [hc] at hch
    have h := hides_plain (d := ⟨K, l⟩) (e := ⟨K, T⟩) hn rfl hof (by rw [hP, hQ]; exact hpq) (by
      rw [hR, hQ]
      have e : sealB (saltB K (n : Int)) (ofL ⟨K, T⟩ (n : Int)) = sealB S A := by rw [show ofL ⟨K, T⟩ (n : Int) = A from hT, hS]
      show verB R 100 (n : Int) (sealB (saltB K (n : Int)) (ofL ⟨K, T⟩ (n : Int))) Q = true
      rw [e]
      exact hch)
    rw [pageHF_meet]
    have e1 : pageOf ⟨K, l⟩ n = ⟨(n : Int), A, S, P⟩ := by unfold pageOf; rw [hP]; show VPage.mk _ (ofN l n) (saltB K n) _ = _; rw [hA, hS]
    have e2 : pageOf ⟨K, T⟩ n = ⟨(n : Int), A, S, Q⟩ := by unfold pageOf; rw [hQ]; show VPage.mk _ (ofN T n) (saltB K n) _ = _; rw [hT, hS]
    rw [e1, e2] at h
    exact h
  · rw [← hP]
    exact Nat.le_trans (proofL_short (sealsL ⟨K, l⟩).length (sealsL ⟨K, l⟩) n 10 (Nat.le_refl _) (by rw [hpl]; decide)) (by omega)
/-- The notes that have been added. -/
def Hid1 (K : List UInt8) (l : List VNote) (u : Int) (k : Nat) (T : List VNote) : Prop := dosB ⟨K, T⟩ = true ∧ T.length ≤ k ∧ ∀ x, x ∈ T ↔ x ∈ l.take k ∧ x.unit = u
def Hid2 (K : List UInt8) (l m : List VNote) (u : Int) (k : Nat) (T : List VNote) : Prop := dosB ⟨K, T⟩ = true ∧ T.length ≤ 12 + k ∧ ∀ x, x ∈ T ↔ (x ∈ l ∧ x.unit = u) ∨ (x ∈ m.take k ∧ x.unit ≠ u)
theorem new_at {l : List VNote} (h : l.Pairwise (fun a b => ltN a b = true)) {k : Nat} {y : VNote} (hy : l[k]? = some y) : y ∉ l.take k := fun hm => by
  obtain ⟨i, hi⟩ := List.mem_iff_getElem?.1 hm
  have hik : i < k := by have := (List.getElem?_eq_some_iff.1 hi).1; rw [List.length_take] at this; omega
  rw [List.getElem?_take_of_lt hik] at hi
  obtain ⟨h1, e1⟩ := List.getElem?_eq_some_iff.1 hi
  obtain ⟨h2, e2⟩ := List.getElem?_eq_some_iff.1 hy
  have := List.pairwise_iff_getElem.1 h i k h1 h2 hik
  rw [e1, e2, ltN_irr] at this
  cases this
theorem take_mem {l : List VNote} {k : Nat} {y : VNote} (hy : l[k]? = some y) {x : VNote} : x ∈ l.take (k + 1) ↔ x ∈ l.take k ∨ x = y := by
  rw [List.take_add_one, hy, List.mem_append]
  simp
theorem hid1_0 {K : List UInt8} (hk : K.length = 32) (l : List VNote) (u : Int) : Hid1 K l u 0 [] := ⟨dosB_of hk (fun n h => by cases h) List.Pairwise.nil (by simp), Nat.le_refl _, fun x => by simp⟩
theorem hid1_add {K : List UInt8} {l T : List VNote} {u : Int} {k : Nat} {y : VNote} (hd : dosB ⟨K, l⟩ = true) (hl : l.length ≤ 12) (h : Hid1 K l u k T) (hy : l[k]? = some y) (hu : y.unit = u) : addN ⟨K, T⟩ y = (⟨K, insN y T⟩, 0) ∧ Hid1 K l u (k + 1) (insN y T) := by
  obtain ⟨h1, h2, h3⟩ := h
  obtain ⟨d1, d2, d3, d4⟩ := dosB_ok hd
  have hk := (List.getElem?_eq_some_iff.1 hy).1
  obtain ⟨g1, g2⟩ := addN_new (d := ⟨K, T⟩) h1 (d2 y (List.mem_of_getElem? hy)) (by show T.length < 60; omega) (fun hm => new_at d3 hy ((h3 y).1 hm).1)
  refine ⟨g1, g2, by rw [insN_length]; omega, fun x => ?_⟩
  rw [insN_mem, h3, take_mem hy]
  constructor
  · rintro (rfl | ⟨h, h'⟩)
    · exact ⟨.inr rfl, hu⟩
    · exact ⟨.inl h, h'⟩
  · rintro ⟨h | rfl, h'⟩
    · exact .inr ⟨h, h'⟩
    · exact .inl rfl
theorem hid1_skip {K : List UInt8} {l T : List VNote} {u : Int} {k : Nat} {y : VNote} (h : Hid1 K l u k T) (hy : l[k]? = some y) (hu : y.unit ≠ u) : Hid1 K l u (k + 1) T := by
  obtain ⟨h1, h2, h3⟩ := h
  refine ⟨h1, by omega, fun x => ?_⟩
  rw [h3, take_mem hy]
  constructor
  · rintro ⟨h, h'⟩
    exact ⟨.inl h, h'⟩
  · rintro ⟨h | rfl, h'⟩
    · exact ⟨h, h'⟩
    · exact absurd h' hu
theorem hid2_0 {K : List UInt8} {l T : List VNote} {u : Int} (m : List VNote) (hl : l.length ≤ 12) (h : Hid1 K l u l.length T) : Hid2 K l m u 0 T := by
  obtain ⟨h1, h2, h3⟩ := h
  refine ⟨h1, by omega, fun x => ?_⟩
  rw [h3, List.take_of_length_le (Nat.le_refl _)]
  simp
theorem hid2_add {K : List UInt8} {l m T : List VNote} {u : Int} {k : Nat} {y : VNote} (hd : dosB ⟨K, m⟩ = true) (hl : m.length ≤ 12) (h : Hid2 K l m u k T) (hy : m[k]? = some y) (hu : y.unit ≠ u) : addN ⟨K, T⟩ y = (⟨K, insN y T⟩, 0) ∧ Hid2 K l m u (k + 1) (insN y T) := by
  obtain ⟨h1, h2, h3⟩ := h
  obtain ⟨d1, d2, d3, d4⟩ := dosB_ok hd
  have hk := (List.getElem?_eq_some_iff.1 hy).1
  obtain ⟨g1, g2⟩ := addN_new (d := ⟨K, T⟩) h1 (d2 y (List.mem_of_getElem? hy)) (by show T.length < 60; omega) (fun hm => by
    rcases (h3 y).1 hm with h | h
    · exact hu h.2
    · exact new_at d3 hy h.1)
  refine ⟨g1, g2, by rw [insN_length]; omega, fun x => ?_⟩
  rw [insN_mem, h3, take_mem hy]
  constructor
  · rintro (rfl | h | ⟨h, h'⟩)
    · exact .inr ⟨.inr rfl, hu⟩
    · exact .inl h
    · exact .inr ⟨.inl h, h'⟩
  · rintro (h | ⟨h | rfl, h'⟩)
    · exact .inr (.inl h)
    · exact .inr (.inr ⟨h, h'⟩)
    · exact .inl rfl
theorem hid2_skip {K : List UInt8} {l m T : List VNote} {u : Int} {k : Nat} {y : VNote} (h : Hid2 K l m u k T) (hy : m[k]? = some y) (hu : y.unit = u) : Hid2 K l m u (k + 1) T := by
  obtain ⟨h1, h2, h3⟩ := h
  refine ⟨h1, by omega, fun x => ?_⟩
  rw [h3, take_mem hy]
  constructor
  · rintro (h | ⟨h, h'⟩)
    · exact .inl h
    · exact .inr ⟨.inl h, h'⟩
  · rintro (h | ⟨h | rfl, h'⟩)
    · exact .inl h
    · exact .inr ⟨h, h'⟩
    · exact absurd hu h'
theorem hid2_of {K : List UInt8} {l m T : List VNote} {u : Int} {k : Nat} (hd : dosB ⟨K, l⟩ = true) (h : Hid2 K l m u k T) : ofN T u = ofN l u := by
  obtain ⟨h1, h2, h3⟩ := h
  refine sorted_ext (lt := fun a b => ltN a b = true) (fun a h => by rw [ltN_irr] at h; cases h) (fun a b h g => by rw [ltN_asym h] at g; cases g) _ _ ((dosB_ok h1).2.2.1.filter _) ((dosB_ok hd).2.2.1.filter _) (fun x => ?_)
  unfold ofN
  rw [List.mem_filter, List.mem_filter, h3]
  simp only [decide_eq_true_eq]
  constructor
  · rintro ⟨h | h, h'⟩
    · exact h
    · exact absurd h' h.2
  · rintro h
    exact ⟨.inl h, h.2⟩
/-- What the calls of a region leave: two lists, two answers. -/
def CallF (B ka kb kc : Nat) (c : Bool) (p q : List Bytes) : Nat → Value → World → Prop := fun k v W => if k = ka then OwnS B W v p else if k = kb then OwnS B W v q else if k = kc then v = .bool c else v = .bool true
theorem callF_kept {B ka kb kc k : Nat} {c : Bool} {p q : List Bytes} {v : Value} {W W' : World} (h : CallF B ka kb kc c p q k v W) (hg : W.grownBy W' none) : CallF B ka kb kc c p q k v W' := by
  unfold CallF at h ⊢
  split at h
  · rename_i h5; rw [if_pos h5]; exact ownS_kept h hg (fun g h => by cases h)
  · rename_i h5; rw [if_neg h5]
    split at h
    · rename_i h6; rw [if_pos h6]; exact ownS_kept h hg (fun g h => by cases h)
    · rename_i h6; rw [if_neg h6]; exact h
theorem callF_a {B kb kc : Nat} (ka : Nat) {c : Bool} {p q : List Bytes} {v : Value} {W : World} : CallF B ka kb kc c p q ka v W ↔ OwnS B W v p := by unfold CallF; rw [if_pos rfl]
theorem callF_b {B ka kc : Nat} (kb : Nat) {c : Bool} {p q : List Bytes} {v : Value} {W : World} (h : kb ≠ ka) : CallF B ka kb kc c p q kb v W ↔ OwnS B W v q := by unfold CallF; rw [if_neg h, if_pos rfl]
theorem callF_c {B ka kb : Nat} (kc : Nat) {c : Bool} {p q : List Bytes} {v : Value} {W : World} (h : kc ≠ ka) (h' : kc ≠ kb) : CallF B ka kb kc c p q kc v W ↔ v = .bool c := by unfold CallF; rw [if_neg h, if_neg h', if_pos rfl]
theorem callF_d {B ka kb kc : Nat} (k : Nat) {c : Bool} {p q : List Bytes} {v : Value} {W : World} (h : k ≠ ka) (h' : k ≠ kb) (h'' : k ≠ kc) : CallF B ka kb kc c p q k v W ↔ v = .bool true := by unfold CallF; rw [if_neg h, if_neg h', if_neg h'']
end Go.Proofs.YteicimmdcdjagaaGreatDoor
end
