import Derived.Test.YteicimmdcdjagaaGreatDoorVSaneP
import Derived.Test.YteicimmdcdjagaaGreatDoorVPages
import Derived.Test.YteicimmdcdjagaaGreatDoorVChk
import Derived.Test.YteicimmdcdjagaaGreatDoorVQuery
import Derived.Test.YteicimmdcdjagaaGreatDoorCalmLate
set_option linter.unusedVariables false
set_option linter.unusedSimpArgs false

/- sane of the statements on view returns true. -/
set_option linter.unusedVariables false
set_option linter.unusedSimpArgs false
namespace Go.Proofs.YteicimmdcdjagaaGreatDoor
open Go.RowKit Go.Shelf

def vT : List VTitle := [⟨3, 5, 0, 100⟩, ⟨7, 5, 50, 100⟩, ⟨7, 6, 0, 50⟩]
def vZ32 : List UInt8 := List.replicate 32 0
theorem vmk32 (W : World) : ∃ W1, (Instr.makeSlice 100 (.int .i64 32) (.int .i64 32)).run Tryz.prog W = .ok (.slice (some ⟨W.heap.size, 0, none⟩) 32 32) W1 ∧ Below W.heap.size W W1 ∧ W.heap.size < W1.heap.size ∧
    ∀ W2, Below W1.heap.size W1 W2 → (convert 100 9 (.slice (some ⟨W.heap.size, 0, none⟩) 32 32)).run Tryz.prog W2 = .ok (.string (bs vZ32)) W2 := by
  obtain ⟨i0, hi, hz0, hz1, hz2⟩ := info_parts info_b8
  obtain ⟨W1, h1, h2, h3⟩ := run_makeSlice_full (P := Tryz.prog) (w := W) W.heap.size 100 5 i0 (.int .u8 0) 1 Tryz.underlying100 hi hz0 hz1 .i64 .i64 32 (by omega) (by rw [hz2]; omega) (by unfold maxLen; omega) (Nat.le_refl _)
  refine ⟨W1, h1, ⟨h3.os, h3.tape, h3.output, h3.size, fun k hk => h3.block k hk (by simp)⟩, (World.ownsRow.lt h2 W.heap.size rfl).2, fun W2 hW => ?_⟩
  refine run_convert_bytes_back W2 100 9 5 ⟨W.heap.size, 0, none⟩ 32 vZ32 Tryz.underlying100 Tryz.underlying5 Tryz.underlying9 fun j hj => ?_
  have hj' : j < 32 := hj
  have hlt := (World.ownsRow.lt h2 W.heap.size rfl).2
  have hc := World.ownsRow.cellAt h2 j (by omega)
  rw [Addr.add_mid, Nat.zero_add, hW.cell (p := ⟨W.heap.size, j, none⟩) hlt, hc]
  have hm : (madeCells (Value.int .u8 0).cells (32 * 1)).toList = List.replicate 32 (.int .u8 0) := toList_madeCells_one _ _
  rw [hm, List.getElem?_replicate, if_pos hj']
  have hz : vZ32[j] = 0 := List.getElem_replicate ..
  exact congrArg (fun z : UInt8 => some (Value.int .u8 (z.toNat : Int))) hz.symm
set_option maxRecDepth 100000 in
set_option maxHeartbeats 2000000 in
theorem example_any (w : World) :
    Calls Tryz.prog 32 #[] w fun e w' => ∃ g t, e = .returned (.tuple #[dosV vZ32 (.slice (some ⟨g, 0, none⟩) 3 3), .slice (some ⟨t, 0, none⟩) 3 3]) ∧ RowsAt noteK w'.heap.size w' (.slice (some ⟨g, 0, none⟩) 3 3) [vn0, vn1, vn2] ∧ RowsAt titleK w'.heap.size w' (.slice (some ⟨t, 0, none⟩) 3 3) vT ∧ Below w.heap.size w w' := by
  obtain ⟨W1, hmk, hb1, hz1, hcv⟩ := vmk32 (w.alloc (.cells #[.string (⟨#[]⟩ : ByteArray), .slice none 0 0] 26))
  have hconv := hcv W1 (Below.refl _ _)
  clear hcv
  rw [World.size_alloc] at hmk hb1 hz1 hconv
  have HR0 : Hid (BoxN w.heap.size 26 #[.string (⟨#[]⟩ : ByteArray), .slice none 0 0] W1) := BoxN.below (box_new w _ _) hb1 (by omega)
  have HB1 : Hid (Below w.heap.size w W1) := ((Below.refl _ _).alloc (Nat.le_refl _) _).trans (hb1.mono (by omega))
  clear hb1
  have hx : BoxN w.heap.size 26 #[.string (⟨#[]⟩ : ByteArray), .slice none 0 0] (((W1.alloc (.cells #[.int .i64 3, .int .i64 10, .int .i64 1, .string (⟨#[99, 114, 97, 99, 107]⟩ : ByteArray), .int .i64 3, .int .i64 20, .int .i64 2, .string (⟨#[]⟩ : ByteArray), .int .i64 7, .int .i64 15, .int .i64 1, .string (⟨#[109, 111, 115, 115]⟩ : ByteArray)] 48)).alloc (.cells #[.string (bs vZ32), .slice (some ⟨W1.heap.size, 0, none⟩) 3 3] 26)).alloc (.cells #[.int .i64 3, .int .i64 5, .int .i64 0, .int .i64 100, .int .i64 7, .int .i64 5, .int .i64 50, .int .i64 100, .int .i64 7, .int .i64 6, .int .i64 0, .int .i64 50] 97)) := ((HR0.out.alloc _).alloc _).alloc _
  have z0 := BoxN.cell hx 0 _ rfl
  have z1 := BoxN.cell hx 1 _ rfl
  have zf := BoxN.frozen hx
  have hal := fun (W : World) (o : Obj) => World.grownBy_alloc W o none
  have hn : OwnK noteK W1.heap.size (((W1.alloc (.cells #[.int .i64 3, .int .i64 10, .int .i64 1, .string (⟨#[99, 114, 97, 99, 107]⟩ : ByteArray), .int .i64 3, .int .i64 20, .int .i64 2, .string (⟨#[]⟩ : ByteArray), .int .i64 7, .int .i64 15, .int .i64 1, .string (⟨#[109, 111, 115, 115]⟩ : ByteArray)] 48)).alloc (.cells #[.string (bs vZ32), .slice (some ⟨W1.heap.size, 0, none⟩) 3 3] 26)).alloc (.cells #[.int .i64 3, .int .i64 5, .int .i64 0, .int .i64 100, .int .i64 7, .int .i64 5, .int .i64 50, .int .i64 100, .int .i64 7, .int .i64 6, .int .i64 0, .int .i64 50] 97)) (.slice (some ⟨W1.heap.size, 0, none⟩) 3 3) [vn0, vn1, vn2] :=
    ((ownK_lit noteOk W1 [vn0, vn1, vn2] #[.int .i64 3, .int .i64 10, .int .i64 1, .string (⟨#[99, 114, 97, 99, 107]⟩ : ByteArray), .int .i64 3, .int .i64 20, .int .i64 2, .string (⟨#[]⟩ : ByteArray), .int .i64 7, .int .i64 15, .int .i64 1, .string (⟨#[109, 111, 115, 115]⟩ : ByteArray)] rfl (by decide)).kept (hal _ _) (fun g h => by cases h)).kept (hal _ _) (fun g h => by cases h)
  have ht : OwnK titleK (W1.heap.size + 1 + 1) (((W1.alloc (.cells #[.int .i64 3, .int .i64 10, .int .i64 1, .string (⟨#[99, 114, 97, 99, 107]⟩ : ByteArray), .int .i64 3, .int .i64 20, .int .i64 2, .string (⟨#[]⟩ : ByteArray), .int .i64 7, .int .i64 15, .int .i64 1, .string (⟨#[109, 111, 115, 115]⟩ : ByteArray)] 48)).alloc (.cells #[.string (bs vZ32), .slice (some ⟨W1.heap.size, 0, none⟩) 3 3] 26)).alloc (.cells #[.int .i64 3, .int .i64 5, .int .i64 0, .int .i64 100, .int .i64 7, .int .i64 5, .int .i64 50, .int .i64 100, .int .i64 7, .int .i64 6, .int .i64 0, .int .i64 50] 97)) (.slice (some ⟨W1.heap.size + 1 + 1, 0, none⟩) 3 3) vT := by
    have := ownK_lit titleOk ((W1.alloc (.cells #[.int .i64 3, .int .i64 10, .int .i64 1, .string (⟨#[99, 114, 97, 99, 107]⟩ : ByteArray), .int .i64 3, .int .i64 20, .int .i64 2, .string (⟨#[]⟩ : ByteArray), .int .i64 7, .int .i64 15, .int .i64 1, .string (⟨#[109, 111, 115, 115]⟩ : ByteArray)] 48)).alloc (.cells #[.string (bs vZ32), .slice (some ⟨W1.heap.size, 0, none⟩) 3 3] 26)) vT #[.int .i64 3, .int .i64 5, .int .i64 0, .int .i64 100, .int .i64 7, .int .i64 5, .int .i64 50, .int .i64 100, .int .i64 7, .int .i64 6, .int .i64 0, .int .i64 50] rfl (by decide)
    rw [World.size_alloc, World.size_alloc] at this
    exact this
  have HE := Lib.hid (BoxN.set2 hx (.string (bs vZ32)) (.slice (some ⟨W1.heap.size, 0, none⟩) 3 3))
  have HNs := Lib.hid ((hn.setBox hx (by decide) 0 (.string (bs vZ32))).setBox (hx.set 0 (.string (bs vZ32))) (by decide) 1 (.slice (some ⟨W1.heap.size, 0, none⟩) 3 3))
  have HTs := Lib.hid ((ht.setBox hx (by decide) 0 (.string (bs vZ32))).setBox (hx.set 0 (.string (bs vZ32))) (by decide) 1 (.slice (some ⟨W1.heap.size, 0, none⟩) 3 3))
  have HBX : Hid (Below w.heap.size w (((W1.alloc (.cells #[.int .i64 3, .int .i64 10, .int .i64 1, .string (⟨#[99, 114, 97, 99, 107]⟩ : ByteArray), .int .i64 3, .int .i64 20, .int .i64 2, .string (⟨#[]⟩ : ByteArray), .int .i64 7, .int .i64 15, .int .i64 1, .string (⟨#[109, 111, 115, 115]⟩ : ByteArray)] 48)).alloc (.cells #[.string (bs vZ32), .slice (some ⟨W1.heap.size, 0, none⟩) 3 3] 26)).alloc (.cells #[.int .i64 3, .int .i64 5, .int .i64 0, .int .i64 100, .int .i64 7, .int .i64 5, .int .i64 50, .int .i64 100, .int .i64 7, .int .i64 6, .int .i64 0, .int .i64 50] 97))) := ((HB1.out.alloc HB1.out.size _).alloc (by have := HB1.out.size; simp; omega) _).alloc (by have := HB1.out.size; simp; omega) _
  have HBf := Lib.hid ((HBX.out.setCell (p := ⟨w.heap.size, 0, none⟩) (Nat.le_refl _) (.string (bs vZ32))).setCell (p := ⟨w.heap.size, 1, none⟩) (Nat.le_refl _) (.slice (some ⟨W1.heap.size, 0, none⟩) 3 3))
  clear hx hal hn ht HBX HB1 HR0
  go_enter Tryz.func32, Tryz.ntmps32
  go_wp2
  have hE := HE.out
  exact bodyPost_ret (v := .tuple #[dosV vZ32 (.slice (some ⟨W1.heap.size, 0, none⟩) 3 3), .slice (some ⟨W1.heap.size + 1 + 1, 0, none⟩) 3 3]) (by simp [results, Tryz.results32, go_sem, BoxN.cell hE 0 _ rfl, BoxN.cell hE 1 _ rfl]; try rfl) rfl ⟨_, _, rfl, HNs.out.rows noteOk, HTs.out.rows titleOk, HBf.out⟩
/-- What sane finds. -/
theorem vsane_all : ∃ (K R S3 S4 : Bytes) (P3 P4 : List Bytes), K = vZ32 ∧ rootE ⟨K, [vn0, vn1, vn2]⟩ = (R, 0) ∧ pageE ⟨K, [vn0, vn1, vn2]⟩ 3 = (⟨3, [vn0, vn1], S3, P3⟩, 0) ∧ pageE ⟨K, [vn0, vn1, vn2]⟩ 4 = (⟨4, [], S4, P4⟩, 0) ∧ P3.length = 7 ∧ P4.length ≤ 1000 ∧ saltE K 3 = (S3, 0) ∧ saltE [] 3 = ([], 400) ∧ addN ⟨K, [vn0, vn1, vn2]⟩ vn0 = (⟨[], []⟩, 400) ∧
    checkB R ⟨3, [vn0, vn1], S3, P3⟩ = true ∧ checkB R ⟨4, [], S4, P4⟩ = true ∧ checkB R ⟨3, [vn0], S3, P3⟩ = false ∧ checkB S3 ⟨3, [vn0, vn1], S3, P3⟩ = false ∧ S4 ≠ S3 ∧ pagesN ⟨K, [vn0, vn1, vn2]⟩ vT 5 20 = [3] ∧ pagesN ⟨K, [vn0, vn1, vn2]⟩ vT 5 60 = [3, 7] ∧ pagesC ⟨K, [vn0, vn1, vn2]⟩ vT = 0 ∧
    queryL [vn0, vn1] 10 20 = [vn0] ∧ mayB vT 6 7 49 = true ∧ mayB vT 6 7 50 = false ∧ titledB vT = true ∧ dosB ⟨K, [vn0, vn1, vn2]⟩ = true ∧ dosB ⟨[], []⟩ = false := by
  have hd : dosB vD = true := by decide +kernel
  have e : (⟨vZ32, [vn0, vn1, vn2]⟩ : VDos) = vD := rfl
  have o3 : ofL vD 3 = [vn0, vn1] := by decide +kernel
  have o4 : ofL vD 4 = [] := by decide +kernel
  have hk : vD.key = vZ32 := rfl
  have hP : proofL (sealsL vD) ((3 : Int)).toNat = vP := vP_eq
  have v3 := page_ok vD (u := 3) (by decide)
  have v4 := page_ok vD (u := 4) (by decide)
  rw [vRoot_eq, vP_eq] at v3
  rw [vRoot_eq] at v4
  have v3' : verB vRoot 100 3 (sealB (saltB vD.key 3) [vn0, vn1]) vP = true := by rw [← o3]; exact v3
  have v4' : verB vRoot 100 4 (sealB (saltB vD.key 4) []) (proofL (sealsL vD) 4) = true := by rw [← o4]; exact v4
  have s3 : (saltB vD.key 3).length = 32 := saltB_length _ _
  have s4 : (saltB vD.key 4).length = 32 := saltB_length _ _
  have n2 := vsane_no2
  rw [o3] at n2
  refine ⟨vZ32, vRoot, saltB vD.key 3, saltB vD.key 4, vP, proofL (sealsL vD) 4, rfl, ?_, ?_, ?_, by decide +kernel, ?_, ?_, ?_, ?_, ?_, ?_, ?_, ?_, vsane_salt, ?_, ?_, ?_, ?_, ?_, ?_, ?_, ?_, ?_⟩
  · rw [e]; unfold rootE; rw [if_pos hd, vRoot_eq]
  · rw [e, pageE_ok (by rw [hd]; rfl)]
    show (({ unit := 3, notes := ofL vD 3, salt := saltB vD.key 3, proof := proofL (sealsL vD) ((3 : Int)).toNat } : VPage), (0 : Int)) = _
    rw [o3, hP]
  · rw [e, pageE_ok (by rw [hd]; rfl)]
    show (({ unit := 4, notes := ofL vD 4, salt := saltB vD.key 4, proof := proofL (sealsL vD) ((4 : Int)).toNat } : VPage), (0 : Int)) = _
    rw [o4]
    rfl
  · exact Nat.le_trans (proofL_short _ (sealsL vD) 4 7 (Nat.le_refl _) (by rw [sealsL_length]; decide)) (by decide)
  · rw [← hk]; unfold saltE; rw [if_pos (by decide +kernel)]
  · unfold saltE; rw [if_neg (by decide +kernel)]
  · rw [e]; exact addN_old (by decide +kernel)
  · unfold checkB
    simp only [v3', s3]
    decide +kernel
  · unfold checkB
    simp only [v4', s4]
    decide +kernel
  · unfold checkB
    simp only [vsane_no1, Bool.and_false]
  · unfold checkB
    simp only [n2, Bool.and_false]
  all_goals first | decide +kernel | (rw [e]; decide +kernel)
theorem pagesAt1 {B : Nat} {W : World} {key : List UInt8} {l : List VNote} {ls : List Bytes} {rs : List PageR} {u : Nat} (h : PagesAt B W key l ls [u] rs) : ∃ r, rs = [r] ∧ r.unit = (u : Int) := by
  obtain ⟨h1, h2⟩ := h
  obtain ⟨r, h3, h4⟩ := h2 0 u rfl
  match rs, h1, h3 with
  | [x], _, h3 => cases h3; exact ⟨_, rfl, h4.1⟩
theorem pagesAt2 {B : Nat} {W : World} {key : List UInt8} {l : List VNote} {ls : List Bytes} {rs : List PageR} {u v : Nat} (h : PagesAt B W key l ls [u, v] rs) : ∃ r s, rs = [r, s] ∧ r.unit = (u : Int) ∧ s.unit = (v : Int) := by
  obtain ⟨h1, h2⟩ := h
  obtain ⟨r, h3, h4⟩ := h2 0 u rfl
  obtain ⟨s, h5, h6⟩ := h2 1 v rfl
  match rs, h1, h3, h5 with
  | [x, y], _, h3, h5 => cases h3; cases h5; exact ⟨_, _, rfl, h4.1, h6.1⟩
def vtupAt (v : Value) (i : Nat) : Value := match v with | .tuple xs => xs.getD i undef | _ => undef
set_option maxRecDepth 100000 in
set_option maxHeartbeats 8000000 in
theorem vsane_any (w : World) (hT : Rounds w) :
    Calls Tryz.prog 9 #[] w fun e w' => e = .returned (.bool true) ∧ Below w.heap.size w w' := by
  have HT := Lib.hid (LiveP.start hT)
  obtain ⟨K, R, S3, S4, P3, P4, q0, q1, q2, q3, q4, q5, q6, q7, q8, q9, q10, q11, q12, q13, q14, q15, q16, q17, q18, q19, q20, q21, q22⟩ := vsane_all
  have HK := Lib.hid q0
  have HRoot := Lib.hid q1
  have HP3 := Lib.hid q2
  have HP4 := Lib.hid q3
  have HP3l := Lib.hid q4
  have HP4l := Lib.hid q5
  have HSalt := Lib.hid q6
  have HSalt0 := Lib.hid q7
  have HAdd := Lib.hid q8
  have HC1 := Lib.hid q9
  have HC2 := Lib.hid q10
  have HC3 := Lib.hid q11
  have HC4 := Lib.hid q12
  have HS43 := Lib.hid q13
  have HN1 := Lib.hid q14
  have HN2 := Lib.hid q15
  have HNc := Lib.hid q16
  have HQl := Lib.hid q17
  have HM1 := Lib.hid q18
  have HM2 := Lib.hid q19
  have HTi := Lib.hid q20
  have HV1 := Lib.hid q21
  have HV2 := Lib.hid q22
  clear q0 q1 q2 q3 q4 q5 q6 q7 q8 q9 q10 q11 q12 q13 q14 q15 q16 q17 q18 q19 q20 q21 q22 hT
  go_enter Tryz.func9, Tryz.ntmps9
  go_wp2_with fail
  refine (example_any w).mono ?_
  rintro e w1 ⟨g, t, rfl, hO, hOt, hb⟩
  rw [← HK.out]
  have hL := ((((HT.out.step hb).add (keep_rows hO)).add (keep_rows hOt)).alloc (.cells #[.string (bs K), .slice (some ⟨g, 0, none⟩) 3 3] 26)).add (keep_box (box_new w1 _ _))
  clear hO hOt hb
  have a0 := BoxN.cell (show (BoxN w1.heap.size 26 #[.string (bs K), .slice (some ⟨g, 0, none⟩) 3 3]) _ from hL.get (by simp)) 0 _ rfl
  have a1 := BoxN.cell (show (BoxN w1.heap.size 26 #[.string (bs K), .slice (some ⟨g, 0, none⟩) 3 3]) _ from hL.get (by simp)) 1 _ rfl
  have HL1 := Lib.hid hL
  clear hL
  go_wp2_with fail
  clear a0 a1
  refine (vRoot_any K _ [vn0, vn1, vn2] _ (show (RowsN noteK (.slice (some ⟨g, 0, none⟩) 3 3) [vn0, vn1, vn2]) _ from HL1.out.get (by simp)) (by decide) HL1.out.rounds).mono ?_
  rintro e w2 ⟨rfl, hb⟩
  rw [HRoot.out]
  simp only
  have hL := HL1.out.step hb
  clear hb HL1
  have a0 := BoxN.cell (show (BoxN w1.heap.size 26 #[.string (bs K), .slice (some ⟨g, 0, none⟩) 3 3]) _ from hL.get (by simp)) 0 _ rfl
  have a1 := BoxN.cell (show (BoxN w1.heap.size 26 #[.string (bs K), .slice (some ⟨g, 0, none⟩) 3 3]) _ from hL.get (by simp)) 1 _ rfl
  have HL2 := Lib.hid hL
  clear hL
  go_wp2_with fail
  clear a0 a1
  refine (vPage_any K _ [vn0, vn1, vn2] 3 _ (show (RowsN noteK (.slice (some ⟨g, 0, none⟩) 3 3) [vn0, vn1, vn2]) _ from HL2.out.get (by simp)) (by decide) HL2.out.rounds).mono ?_
  rintro e w3 ⟨nv3, pv3, rfl, hn, hp, hb⟩
  rw [HP3.out] at hn hp ⊢
  simp only at hn hp ⊢
  obtain ⟨gx, xc, hx, _, _, hxc, hxm⟩ := hn.some (by decide)
  obtain ⟨pa, pc, hpx, hpc, hpm⟩ := ownS_shape hp
  subst hx hpx
  rw [show [vn0, vn1].length = 2 from rfl] at hn hxc ⊢
  rw [HP3l.out] at hp hpc ⊢
  have hL := ((((HL2.out.step hb).add (keep_rows (hn.rows noteOk))).add (keep_strs hp.strs)).alloc (.cells #[.int .i64 3, .slice (some ⟨gx, 0, none⟩) 2 xc, .string (bs S3), .slice pa 7 pc] 39)).add (keep_box (box_new w3 _ _))
  unfold maxLen at hxm hpm
  clear hn hp hb HL2
  have a0 := BoxN.cell (show (BoxN w1.heap.size 26 #[.string (bs K), .slice (some ⟨g, 0, none⟩) 3 3]) _ from hL.get (by simp)) 0 _ rfl
  have a1 := BoxN.cell (show (BoxN w1.heap.size 26 #[.string (bs K), .slice (some ⟨g, 0, none⟩) 3 3]) _ from hL.get (by simp)) 1 _ rfl
  have HL3 := Lib.hid hL
  clear hL
  go_wp2_with fail
  clear a0 a1
  refine (vPage_any K _ [vn0, vn1, vn2] 4 _ (show (RowsN noteK (.slice (some ⟨g, 0, none⟩) 3 3) [vn0, vn1, vn2]) _ from HL3.out.get (by simp)) (by decide) HL3.out.rounds).mono ?_
  rintro e w4 ⟨nv4, pv4, rfl, hn, hp, hb⟩
  rw [HP4.out] at hn hp ⊢
  simp only at hn hp ⊢
  obtain ⟨ya, yc, hx, _, hym⟩ := hn.shape
  obtain ⟨qa, qc, hpx, hqc, hqm⟩ := ownS_shape hp
  subst hx hpx
  rw [show ([] : List VNote).length = 0 from rfl] at hn ⊢
  generalize hqn : P4.length = qn at *
  have HQn := Lib.hid hqn
  clear hqn
  have hL := ((((HL3.out.step hb).add (keep_rows (hn.rows noteOk))).add (keep_strs hp.strs)).alloc (.cells #[.int .i64 4, .slice ya 0 yc, .string (bs S4), .slice qa qn qc] 39)).add (keep_box (box_new w4 _ _))
  unfold maxLen at hym hqm
  clear hn hp hb HL3
  have a0 := BoxN.cell (show (BoxN w1.heap.size 26 #[.string (bs K), .slice (some ⟨g, 0, none⟩) 3 3]) _ from hL.get (by simp)) 0 _ rfl
  have a1 := BoxN.cell (show (BoxN w1.heap.size 26 #[.string (bs K), .slice (some ⟨g, 0, none⟩) 3 3]) _ from hL.get (by simp)) 1 _ rfl
  have HL4 := Lib.hid hL
  clear hL
  go_wp2_with fail
  clear a0 a1
  refine (vPages_any K _ [vn0, vn1, vn2] _ vT 5 20 _ (show (RowsN noteK (.slice (some ⟨g, 0, none⟩) 3 3) [vn0, vn1, vn2]) _ from HL4.out.get (by simp)) (by decide) (show (RowsN titleK (.slice (some ⟨t, 0, none⟩) 3 3) vT) _ from HL4.out.get (by simp)) (by decide) HL4.out.rounds).mono ?_
  rintro e w5 ⟨pv5, rs5, rfl, ho, hps, hb⟩
  rw [HN1.out] at hps
  rw [HNc.out]
  obtain ⟨r1, hr1, hu1⟩ := pagesAt1 hps
  subst hr1
  obtain ⟨oa, oc, hx, _, _, hoc, hom⟩ := ho.some (by simp)
  subst hx
  rw [show [r1].length = 1 from rfl] at ho hoc ⊢
  have hL := (HL4.out.step hb).add (keep_rows (ho.rows pageOk))
  clear ho hps hb HL4
  have a0 := BoxN.cell (show (BoxN w1.heap.size 26 #[.string (bs K), .slice (some ⟨g, 0, none⟩) 3 3]) _ from hL.get (by simp)) 0 _ rfl
  have a1 := BoxN.cell (show (BoxN w1.heap.size 26 #[.string (bs K), .slice (some ⟨g, 0, none⟩) 3 3]) _ from hL.get (by simp)) 1 _ rfl
  have HL5 := Lib.hid hL
  clear hL
  go_wp2_with fail
  clear a0 a1
  refine (vPages_any K _ [vn0, vn1, vn2] _ vT 5 60 _ (show (RowsN noteK (.slice (some ⟨g, 0, none⟩) 3 3) [vn0, vn1, vn2]) _ from HL5.out.get (by simp)) (by decide) (show (RowsN titleK (.slice (some ⟨t, 0, none⟩) 3 3) vT) _ from HL5.out.get (by simp)) (by decide) HL5.out.rounds).mono ?_
  rintro e w6 ⟨pv6, rs6, rfl, ho, hps, hb⟩
  rw [HN2.out] at hps
  rw [HNc.out]
  obtain ⟨r2, r3, hr2, hu2, hu3⟩ := pagesAt2 hps
  subst hr2
  obtain ⟨ta, tc, hx, _, _, htc, htm⟩ := ho.some (by simp)
  subst hx
  rw [show [r2, r3].length = 2 from rfl] at ho htc ⊢
  have hL := (HL5.out.step hb).add (keep_rows (ho.rows pageOk))
  clear ho hps hb HL5
  have a0 := BoxN.cell (show (BoxN w1.heap.size 26 #[.string (bs K), .slice (some ⟨g, 0, none⟩) 3 3]) _ from hL.get (by simp)) 0 _ rfl
  have a1 := BoxN.cell (show (BoxN w1.heap.size 26 #[.string (bs K), .slice (some ⟨g, 0, none⟩) 3 3]) _ from hL.get (by simp)) 1 _ rfl
  have HL6 := Lib.hid hL
  clear hL
  go_wp2_with fail
  clear a0 a1
  refine (vSalt_any K 3 _ HL6.out.rounds).mono ?_
  rintro e w7 ⟨rfl, hb⟩
  rw [HSalt.out]
  simp only
  have hL := HL6.out.step hb
  clear hb HL6
  have a0 := BoxN.cell (show (BoxN w1.heap.size 26 #[.string (bs K), .slice (some ⟨g, 0, none⟩) 3 3]) _ from hL.get (by simp)) 0 _ rfl
  have a1 := BoxN.cell (show (BoxN w1.heap.size 26 #[.string (bs K), .slice (some ⟨g, 0, none⟩) 3 3]) _ from hL.get (by simp)) 1 _ rfl
  have HL7 := Lib.hid hL
  clear hL
  go_wp2_with fail
  clear a0 a1
  refine (vSalt_any [] 3 _ HL7.out.rounds).mono ?_
  rintro e w8 ⟨rfl, hb⟩
  rw [HSalt0.out]
  simp only
  have HL8 := Lib.hid (HL7.out.step hb)
  clear hb HL7
  have HQ : Hid (∀ W, w8.grownBy W none → W.cell? ⟨w1.heap.size, 0, none⟩ = some (.string (bs K)) ∧ W.cell? ⟨w1.heap.size, 1, none⟩ = some (.slice (some ⟨g, 0, none⟩) 3 3) ∧ W.cell? ⟨g, 0, none⟩ = some (.int .i64 3) ∧ W.cell? ⟨g, 1, none⟩ = some (.int .i64 10) ∧ W.cell? ⟨g, 2, none⟩ = some (.int .i64 1) ∧ W.cell? ⟨g, 3, none⟩ = some (.string (bs vn0.text))) := fun W hW => by
    have hL := HL8.out.step (grown_below hW)
    have hd := (show (BoxN w1.heap.size 26 #[.string (bs K), .slice (some ⟨g, 0, none⟩) 3 3]) _ from hL.get (by simp))
    obtain ⟨b, off, hae, hbb, p0, p1, p2, p3⟩ := notes_at (show RowsAt noteK _ _ _ _ from (show (RowsN noteK (.slice (some ⟨g, 0, none⟩) 3 3) [vn0, vn1, vn2]) _ from hL.get (by simp))) 0 vn0 rfl
    cases hae
    exact ⟨BoxN.cell hd 0 _ rfl, BoxN.cell hd 1 _ rfl, p0, p1, p2, p3⟩
  go_wp2
  refine wp_region_calm_late 10 8 ⟨[5, 9], fun k v W => if k = 5 then ∃ a c, v = .tuple #[dosV [] (.slice a 0 c), .int .i64 400] else ∃ b, v = .pointer (some ⟨b, 0, none⟩) ∧ w8.heap.size ≤ b ∧ BoxN b 26 #[.string (⟨#[]⟩ : ByteArray), .slice none 0 0] W, fun _ => [], 99, none, 10⟩ (by kernel_rfl) (by kernel_rfl) (by kernel_rfl) (by kernel_rfl) (fun g h => by cases h) (fun k hk v W W' c h hg hc => ?_) ?_
  · cases c with
    | some g => obtain ⟨_, _, i, j, u, hd, _⟩ := hc g rfl; simp at hd
    | none =>
      by_cases h5 : k = 5
      · simp only [h5, if_true] at h ⊢; exact h
      · simp only [h5, if_false] at h ⊢
        obtain ⟨b, h1, h2, h3⟩ := h
        exact ⟨b, h1, h2, BoxN.grown h3 hg (by simp)⟩
  iterate 4 (refine calm_quiet (v := ?_) (by rfl) (by rfl) (fun W hW hD => ?_) ?_; rotate_left; (· (obtain ⟨z0, z1, y0, y1, y2, y3⟩ := HQ.out W hW; clear hD hW; go_simp; try with_reducible rfl)); simp only [Act.put, List.setIfInBounds_toArray, List.set_cons_zero, List.set_cons_succ, Nat.reduceAdd, Nat.zero_add])
  refine calm_quiet (v := noteV vn0) (by rfl) (by rfl) (fun W hW hD => ?_) ?_
  · obtain ⟨z0, z1, y0, y1, y2, y3⟩ := HQ.out W hW
    clear hD hW
    go_simp
    first | rfl | exact ⟨rfl, rfl, rfl⟩
  simp only [Act.put, List.setIfInBounds_toArray, List.set_cons_zero, List.set_cons_succ, Nat.reduceAdd, Nat.zero_add]
  refine calm_makes (by rfl) (by rfl) (fun W hW hD Kc hK => ?_) (fun v69 => ?_)
  · have hL := HL8.out.step (grown_below hW)
    refine wp_of_call (f := 25) (args := #[dosV K (.slice (some ⟨g, 0, none⟩) 3 3), noteV vn0]) ?_ ((vAdd_any K (.slice (some ⟨g, 0, none⟩) 3 3) [vn0, vn1, vn2] vn0 W (show (RowsN noteK (.slice (some ⟨g, 0, none⟩) 3 3) [vn0, vn1, vn2]) _ from hL.get (by simp)) (by decide)).mono ?_)
    · clear hD hW hK hL
      go_simp
    · rintro e w9 ⟨nv', rfl, ho, hb9⟩
      rw [HAdd.out] at ho ⊢
      simp only at ho ⊢
      obtain ⟨a', c', rfl, _, _⟩ := ho.shape
      exact ⟨_, rfl, hK _ _ (made_plain ⟨_, _, rfl⟩ hb9 rfl)⟩
  simp only [Act.put, List.setIfInBounds_toArray, List.set_cons_zero, List.set_cons_succ, Nat.reduceAdd, Nat.zero_add]
  iterate 1 (refine calm_quiet (v := ?_) (by rfl) (by rfl) (fun W hW hD => ?_) ?_; rotate_left; (· (clear hD hW; go_simp; try with_reducible rfl)); simp only [Act.put, List.setIfInBounds_toArray, List.set_cons_zero, List.set_cons_succ, Nat.reduceAdd, Nat.zero_add])
  refine calm_quiet (v := vtupAt v69 0) (by rfl) (by rfl) (fun W hW hD => ?_) ?_
  · obtain ⟨a', c', rfl⟩ : ∃ a c, v69 = .tuple #[dosV [] (.slice a 0 c), .int .i64 400] := hD [6] 5 (by kernel_rfl) (by kernel_rfl) (by kernel_rfl)
    clear hD hW
    go_simp
    try rfl
  simp only [Act.put, List.setIfInBounds_toArray, List.set_cons_zero, List.set_cons_succ, Nat.reduceAdd, Nat.zero_add]
  refine calm_quiet (v := vtupAt v69 1) (by rfl) (by rfl) (fun W hW hD => ?_) ?_
  · obtain ⟨a', c', rfl⟩ : ∃ a c, v69 = .tuple #[dosV [] (.slice a 0 c), .int .i64 400] := hD [6] 5 (by kernel_rfl) (by kernel_rfl) (by kernel_rfl)
    clear hD hW
    go_simp
    try rfl
  simp only [Act.put, List.setIfInBounds_toArray, List.set_cons_zero, List.set_cons_succ, Nat.reduceAdd, Nat.zero_add]
  refine calm_makes (by rfl) (by rfl) (fun W hW hD Kc hK => ?_) (fun v17 => ?_)
  · have hz := hW.size
    refine wp_of_run (v := .pointer (some ⟨W.heap.size, 0, none⟩)) (w' := W.alloc (.cells #[.string (⟨#[]⟩ : ByteArray), .slice none 0 0] 26)) ?_ (hK _ _ (made_plain ⟨_, rfl, hz, box_new W _ _⟩ ((Below.refl _ _).alloc (Nat.le_refl _) _) rfl))
    clear hD hW hK
    go_simp
  simp only [Act.put, List.setIfInBounds_toArray, List.set_cons_zero, List.set_cons_succ, Nat.reduceAdd, Nat.zero_add]
  refine calm_tail (by rfl) fun W hW hF => ?_
  obtain ⟨a', c', rfl⟩ : ∃ a c, v69 = .tuple #[dosV [] (.slice a 0 c), .int .i64 400] := hF 5 (by kernel_rfl) (by kernel_rfl)
  obtain ⟨b, rfl, hbB, hbx⟩ : ∃ b, v17 = .pointer (some ⟨b, 0, none⟩) ∧ w8.heap.size ≤ b ∧ BoxN b 26 #[.string (⟨#[]⟩ : ByteArray), .slice none 0 0] W := hF 9 (by kernel_rfl) (by kernel_rfl)
  rw [show vtupAt (.tuple #[dosV [] (.slice a' 0 c'), .int .i64 400]) 0 = dosV [] (.slice a' 0 c') from rfl, show vtupAt (.tuple #[dosV [] (.slice a' 0 c'), .int .i64 400]) 1 = .int .i64 400 from rfl]
  have z0 := BoxN.cell hbx 0 _ rfl
  have z1 := BoxN.cell hbx 1 _ rfl
  have zf := BoxN.frozen hbx
  have HW : Hid (Below w8.heap.size w8 ((W.setCell ⟨b, 0, none⟩ (.string (bs []))).setCell ⟨b, 1, none⟩ (.slice a' 0 c'))) := ((grown_below hW).setCell (p := ⟨b, 0, none⟩) hbB _).setCell (p := ⟨b, 1, none⟩) hbB _
  clear hF hW hbx HQ hbB
  have hu1' : (r1.unit == 3) = true := by rw [hu1]; rfl
  have hu3' : (r3.unit == 7) = true := by rw [hu3]; rfl
  clear hu1 hu2 hu3
  go_wp2
  refine NoPanic.normal ?_
  clear z0 z1 zf
  generalize ((W.setCell ⟨b, 0, none⟩ (.string (bs []))).setCell ⟨b, 1, none⟩ (.slice a' 0 c')) = W9 at *
  have hL := HL8.out.step HW.out
  have hl3 := BoxN.lt (show (BoxN w3.heap.size 39 #[.int .i64 3, .slice (some ⟨gx, 0, none⟩) 2 xc, .string (bs S3), .slice pa 7 pc]) _ from hL.get (by simp))
  have hl4 := BoxN.lt (show (BoxN w4.heap.size 39 #[.int .i64 4, .slice ya 0 yc, .string (bs S4), .slice qa qn qc]) _ from hL.get (by simp))
  have hl1 := BoxN.lt (show (BoxN w1.heap.size 26 #[.string (bs K), .slice (some ⟨g, 0, none⟩) 3 3]) _ from hL.get (by simp))
  clear HL8 HW
  have a0 := BoxN.cell (show (BoxN w1.heap.size 26 #[.string (bs K), .slice (some ⟨g, 0, none⟩) 3 3]) _ from hL.get (by simp)) 0 _ rfl
  have a1 := BoxN.cell (show (BoxN w1.heap.size 26 #[.string (bs K), .slice (some ⟨g, 0, none⟩) 3 3]) _ from hL.get (by simp)) 1 _ rfl
  have p0 := BoxN.cell (show (BoxN w3.heap.size 39 #[.int .i64 3, .slice (some ⟨gx, 0, none⟩) 2 xc, .string (bs S3), .slice pa 7 pc]) _ from hL.get (by simp)) 0 _ rfl
  have p1 := BoxN.cell (show (BoxN w3.heap.size 39 #[.int .i64 3, .slice (some ⟨gx, 0, none⟩) 2 xc, .string (bs S3), .slice pa 7 pc]) _ from hL.get (by simp)) 1 _ rfl
  have p2 := BoxN.cell (show (BoxN w3.heap.size 39 #[.int .i64 3, .slice (some ⟨gx, 0, none⟩) 2 xc, .string (bs S3), .slice pa 7 pc]) _ from hL.get (by simp)) 2 _ rfl
  have p3 := BoxN.cell (show (BoxN w3.heap.size 39 #[.int .i64 3, .slice (some ⟨gx, 0, none⟩) 2 xc, .string (bs S3), .slice pa 7 pc]) _ from hL.get (by simp)) 3 _ rfl
  have q0 := BoxN.cell (show (BoxN w4.heap.size 39 #[.int .i64 4, .slice ya 0 yc, .string (bs S4), .slice qa qn qc]) _ from hL.get (by simp)) 0 _ rfl
  have q1 := BoxN.cell (show (BoxN w4.heap.size 39 #[.int .i64 4, .slice ya 0 yc, .string (bs S4), .slice qa qn qc]) _ from hL.get (by simp)) 1 _ rfl
  have q2 := BoxN.cell (show (BoxN w4.heap.size 39 #[.int .i64 4, .slice ya 0 yc, .string (bs S4), .slice qa qn qc]) _ from hL.get (by simp)) 2 _ rfl
  have q3 := BoxN.cell (show (BoxN w4.heap.size 39 #[.int .i64 4, .slice ya 0 yc, .string (bs S4), .slice qa qn qc]) _ from hL.get (by simp)) 3 _ rfl
  have HL9 := Lib.hid hL
  clear hL
  go_wp2_with fail
  clear a0 a1 p0 p1 p2 p3 q0 q1 q2 q3
  have HL10 := Lib.hid (((HL9.out.add (keep_rows (RowsAt.take (show RowsAt noteK _ _ _ _ from (show (RowsN noteK (.slice (some ⟨gx, 0, none⟩) 2 xc) [vn0, vn1]) _ from HL9.out.get (by simp))) 1 xc (by decide) (by omega) (by unfold maxLen; omega)))).alloc (.cells #[.int .i64 3, .slice (some ⟨gx, 0, none⟩) 1 xc, .string (bs S3), .slice pa 7 pc] 39)).add (keep_box (box_new W9 _ _)))
  clear HL9
  refine (query_any 3 (.slice (some ⟨gx, 0, none⟩) 2 xc) [vn0, vn1] S3 (.slice pa 7 pc) 10 20 _ (show (RowsN noteK (.slice (some ⟨gx, 0, none⟩) 2 xc) [vn0, vn1]) _ from HL10.out.get (by simp)) (by decide) ⟨_, _, _, rfl⟩).mono ?_
  rintro e w11 ⟨vq, rfl, hq, hb⟩
  rw [HQl.out] at hq
  obtain ⟨gq, cq, hx, _, _, hcq, hcm⟩ := hq.some (by simp)
  subst hx
  rw [show [vn0].length = 1 from rfl] at hq hcq ⊢
  have hL := (HL10.out.step hb).add (keep_rows (hq.rows noteOk))
  clear hq hb HL10
  have a0 := BoxN.cell (show (BoxN w1.heap.size 26 #[.string (bs K), .slice (some ⟨g, 0, none⟩) 3 3]) _ from hL.get (by simp)) 0 _ rfl
  have a1 := BoxN.cell (show (BoxN w1.heap.size 26 #[.string (bs K), .slice (some ⟨g, 0, none⟩) 3 3]) _ from hL.get (by simp)) 1 _ rfl
  have p0 := BoxN.cell (show (BoxN w3.heap.size 39 #[.int .i64 3, .slice (some ⟨gx, 0, none⟩) 2 xc, .string (bs S3), .slice pa 7 pc]) _ from hL.get (by simp)) 0 _ rfl
  have p1 := BoxN.cell (show (BoxN w3.heap.size 39 #[.int .i64 3, .slice (some ⟨gx, 0, none⟩) 2 xc, .string (bs S3), .slice pa 7 pc]) _ from hL.get (by simp)) 1 _ rfl
  have p2 := BoxN.cell (show (BoxN w3.heap.size 39 #[.int .i64 3, .slice (some ⟨gx, 0, none⟩) 2 xc, .string (bs S3), .slice pa 7 pc]) _ from hL.get (by simp)) 2 _ rfl
  have p3 := BoxN.cell (show (BoxN w3.heap.size 39 #[.int .i64 3, .slice (some ⟨gx, 0, none⟩) 2 xc, .string (bs S3), .slice pa 7 pc]) _ from hL.get (by simp)) 3 _ rfl
  have q0 := BoxN.cell (show (BoxN w4.heap.size 39 #[.int .i64 4, .slice ya 0 yc, .string (bs S4), .slice qa qn qc]) _ from hL.get (by simp)) 0 _ rfl
  have q1 := BoxN.cell (show (BoxN w4.heap.size 39 #[.int .i64 4, .slice ya 0 yc, .string (bs S4), .slice qa qn qc]) _ from hL.get (by simp)) 1 _ rfl
  have q2 := BoxN.cell (show (BoxN w4.heap.size 39 #[.int .i64 4, .slice ya 0 yc, .string (bs S4), .slice qa qn qc]) _ from hL.get (by simp)) 2 _ rfl
  have q3 := BoxN.cell (show (BoxN w4.heap.size 39 #[.int .i64 4, .slice ya 0 yc, .string (bs S4), .slice qa qn qc]) _ from hL.get (by simp)) 3 _ rfl
  have l0 := BoxN.cell (show (BoxN W9.heap.size 39 #[.int .i64 3, .slice (some ⟨gx, 0, none⟩) 1 xc, .string (bs S3), .slice pa 7 pc]) _ from hL.get (by simp)) 0 _ rfl
  have l1 := BoxN.cell (show (BoxN W9.heap.size 39 #[.int .i64 3, .slice (some ⟨gx, 0, none⟩) 1 xc, .string (bs S3), .slice pa 7 pc]) _ from hL.get (by simp)) 1 _ rfl
  have l2 := BoxN.cell (show (BoxN W9.heap.size 39 #[.int .i64 3, .slice (some ⟨gx, 0, none⟩) 1 xc, .string (bs S3), .slice pa 7 pc]) _ from hL.get (by simp)) 2 _ rfl
  have l3 := BoxN.cell (show (BoxN W9.heap.size 39 #[.int .i64 3, .slice (some ⟨gx, 0, none⟩) 1 xc, .string (bs S3), .slice pa 7 pc]) _ from hL.get (by simp)) 3 _ rfl
  have HL11 := Lib.hid hL
  clear hL
  have heq1 : ((bs S3).toList == (bs S3).toList) = true := by simp
  have heq2 : ((bs S4).toList == (bs S3).toList) = false := by rw [bs_beq2]; exact beq_eq_false_iff_ne.2 HS43.out
  have heq3 : ((bs S4).toList != (bs S3).toList) = true := by rw [bne, heq2]; rfl
  go_wp2_with fail
  clear a0 a1 p0 p1 p2 p3 q0 q1 q2 q3 l0 l1 l2 l3
  refine (check_any R 3 (.slice (some ⟨gx, 0, none⟩) 2 xc) [vn0, vn1] S3 (.slice pa 7 pc) P3 _ (show (RowsN noteK (.slice (some ⟨gx, 0, none⟩) 2 xc) [vn0, vn1]) _ from HL11.out.get (by simp)) (by decide) (show (StrsN (.slice pa 7 pc) P3) _ from HL11.out.get (by simp)) (by rw [HP3l.out]; decide) HL11.out.rounds).mono ?_
  rintro e w12 ⟨rfl, hb⟩
  rw [HC1.out]
  have hL := HL11.out.step hb
  clear hb HL11
  have a0 := BoxN.cell (show (BoxN w1.heap.size 26 #[.string (bs K), .slice (some ⟨g, 0, none⟩) 3 3]) _ from hL.get (by simp)) 0 _ rfl
  have a1 := BoxN.cell (show (BoxN w1.heap.size 26 #[.string (bs K), .slice (some ⟨g, 0, none⟩) 3 3]) _ from hL.get (by simp)) 1 _ rfl
  have p0 := BoxN.cell (show (BoxN w3.heap.size 39 #[.int .i64 3, .slice (some ⟨gx, 0, none⟩) 2 xc, .string (bs S3), .slice pa 7 pc]) _ from hL.get (by simp)) 0 _ rfl
  have p1 := BoxN.cell (show (BoxN w3.heap.size 39 #[.int .i64 3, .slice (some ⟨gx, 0, none⟩) 2 xc, .string (bs S3), .slice pa 7 pc]) _ from hL.get (by simp)) 1 _ rfl
  have p2 := BoxN.cell (show (BoxN w3.heap.size 39 #[.int .i64 3, .slice (some ⟨gx, 0, none⟩) 2 xc, .string (bs S3), .slice pa 7 pc]) _ from hL.get (by simp)) 2 _ rfl
  have p3 := BoxN.cell (show (BoxN w3.heap.size 39 #[.int .i64 3, .slice (some ⟨gx, 0, none⟩) 2 xc, .string (bs S3), .slice pa 7 pc]) _ from hL.get (by simp)) 3 _ rfl
  have q0 := BoxN.cell (show (BoxN w4.heap.size 39 #[.int .i64 4, .slice ya 0 yc, .string (bs S4), .slice qa qn qc]) _ from hL.get (by simp)) 0 _ rfl
  have q1 := BoxN.cell (show (BoxN w4.heap.size 39 #[.int .i64 4, .slice ya 0 yc, .string (bs S4), .slice qa qn qc]) _ from hL.get (by simp)) 1 _ rfl
  have q2 := BoxN.cell (show (BoxN w4.heap.size 39 #[.int .i64 4, .slice ya 0 yc, .string (bs S4), .slice qa qn qc]) _ from hL.get (by simp)) 2 _ rfl
  have q3 := BoxN.cell (show (BoxN w4.heap.size 39 #[.int .i64 4, .slice ya 0 yc, .string (bs S4), .slice qa qn qc]) _ from hL.get (by simp)) 3 _ rfl
  have l0 := BoxN.cell (show (BoxN W9.heap.size 39 #[.int .i64 3, .slice (some ⟨gx, 0, none⟩) 1 xc, .string (bs S3), .slice pa 7 pc]) _ from hL.get (by simp)) 0 _ rfl
  have l1 := BoxN.cell (show (BoxN W9.heap.size 39 #[.int .i64 3, .slice (some ⟨gx, 0, none⟩) 1 xc, .string (bs S3), .slice pa 7 pc]) _ from hL.get (by simp)) 1 _ rfl
  have l2 := BoxN.cell (show (BoxN W9.heap.size 39 #[.int .i64 3, .slice (some ⟨gx, 0, none⟩) 1 xc, .string (bs S3), .slice pa 7 pc]) _ from hL.get (by simp)) 2 _ rfl
  have l3 := BoxN.cell (show (BoxN W9.heap.size 39 #[.int .i64 3, .slice (some ⟨gx, 0, none⟩) 1 xc, .string (bs S3), .slice pa 7 pc]) _ from hL.get (by simp)) 3 _ rfl
  have HL12 := Lib.hid hL
  clear hL
  go_wp2_with fail
  clear a0 a1 p0 p1 p2 p3 q0 q1 q2 q3 l0 l1 l2 l3
  refine (check_any R 4 (.slice ya 0 yc) [] S4 (.slice qa qn qc) P4 _ (show (RowsN noteK (.slice ya 0 yc) []) _ from HL12.out.get (by simp)) (by decide) (show (StrsN (.slice qa qn qc) P4) _ from HL12.out.get (by simp)) (by rw [HQn.out]; have := HP4l.out; omega) HL12.out.rounds).mono ?_
  rintro e w13 ⟨rfl, hb⟩
  rw [HC2.out]
  have hL := HL12.out.step hb
  clear hb HL12
  have a0 := BoxN.cell (show (BoxN w1.heap.size 26 #[.string (bs K), .slice (some ⟨g, 0, none⟩) 3 3]) _ from hL.get (by simp)) 0 _ rfl
  have a1 := BoxN.cell (show (BoxN w1.heap.size 26 #[.string (bs K), .slice (some ⟨g, 0, none⟩) 3 3]) _ from hL.get (by simp)) 1 _ rfl
  have p0 := BoxN.cell (show (BoxN w3.heap.size 39 #[.int .i64 3, .slice (some ⟨gx, 0, none⟩) 2 xc, .string (bs S3), .slice pa 7 pc]) _ from hL.get (by simp)) 0 _ rfl
  have p1 := BoxN.cell (show (BoxN w3.heap.size 39 #[.int .i64 3, .slice (some ⟨gx, 0, none⟩) 2 xc, .string (bs S3), .slice pa 7 pc]) _ from hL.get (by simp)) 1 _ rfl
  have p2 := BoxN.cell (show (BoxN w3.heap.size 39 #[.int .i64 3, .slice (some ⟨gx, 0, none⟩) 2 xc, .string (bs S3), .slice pa 7 pc]) _ from hL.get (by simp)) 2 _ rfl
  have p3 := BoxN.cell (show (BoxN w3.heap.size 39 #[.int .i64 3, .slice (some ⟨gx, 0, none⟩) 2 xc, .string (bs S3), .slice pa 7 pc]) _ from hL.get (by simp)) 3 _ rfl
  have q0 := BoxN.cell (show (BoxN w4.heap.size 39 #[.int .i64 4, .slice ya 0 yc, .string (bs S4), .slice qa qn qc]) _ from hL.get (by simp)) 0 _ rfl
  have q1 := BoxN.cell (show (BoxN w4.heap.size 39 #[.int .i64 4, .slice ya 0 yc, .string (bs S4), .slice qa qn qc]) _ from hL.get (by simp)) 1 _ rfl
  have q2 := BoxN.cell (show (BoxN w4.heap.size 39 #[.int .i64 4, .slice ya 0 yc, .string (bs S4), .slice qa qn qc]) _ from hL.get (by simp)) 2 _ rfl
  have q3 := BoxN.cell (show (BoxN w4.heap.size 39 #[.int .i64 4, .slice ya 0 yc, .string (bs S4), .slice qa qn qc]) _ from hL.get (by simp)) 3 _ rfl
  have l0 := BoxN.cell (show (BoxN W9.heap.size 39 #[.int .i64 3, .slice (some ⟨gx, 0, none⟩) 1 xc, .string (bs S3), .slice pa 7 pc]) _ from hL.get (by simp)) 0 _ rfl
  have l1 := BoxN.cell (show (BoxN W9.heap.size 39 #[.int .i64 3, .slice (some ⟨gx, 0, none⟩) 1 xc, .string (bs S3), .slice pa 7 pc]) _ from hL.get (by simp)) 1 _ rfl
  have l2 := BoxN.cell (show (BoxN W9.heap.size 39 #[.int .i64 3, .slice (some ⟨gx, 0, none⟩) 1 xc, .string (bs S3), .slice pa 7 pc]) _ from hL.get (by simp)) 2 _ rfl
  have l3 := BoxN.cell (show (BoxN W9.heap.size 39 #[.int .i64 3, .slice (some ⟨gx, 0, none⟩) 1 xc, .string (bs S3), .slice pa 7 pc]) _ from hL.get (by simp)) 3 _ rfl
  have HL13 := Lib.hid hL
  clear hL
  go_wp2_with fail
  clear a0 a1 p0 p1 p2 p3 q0 q1 q2 q3 l0 l1 l2 l3
  refine (check_any R 3 (.slice (some ⟨gx, 0, none⟩) 1 xc) [vn0] S3 (.slice pa 7 pc) P3 _ (show (RowsN noteK (.slice (some ⟨gx, 0, none⟩) 1 xc) [vn0]) _ from HL13.out.get (by simp)) (by decide) (show (StrsN (.slice pa 7 pc) P3) _ from HL13.out.get (by simp)) (by rw [HP3l.out]; decide) HL13.out.rounds).mono ?_
  rintro e w14 ⟨rfl, hb⟩
  rw [HC3.out]
  have hL := HL13.out.step hb
  clear hb HL13
  have a0 := BoxN.cell (show (BoxN w1.heap.size 26 #[.string (bs K), .slice (some ⟨g, 0, none⟩) 3 3]) _ from hL.get (by simp)) 0 _ rfl
  have a1 := BoxN.cell (show (BoxN w1.heap.size 26 #[.string (bs K), .slice (some ⟨g, 0, none⟩) 3 3]) _ from hL.get (by simp)) 1 _ rfl
  have p0 := BoxN.cell (show (BoxN w3.heap.size 39 #[.int .i64 3, .slice (some ⟨gx, 0, none⟩) 2 xc, .string (bs S3), .slice pa 7 pc]) _ from hL.get (by simp)) 0 _ rfl
  have p1 := BoxN.cell (show (BoxN w3.heap.size 39 #[.int .i64 3, .slice (some ⟨gx, 0, none⟩) 2 xc, .string (bs S3), .slice pa 7 pc]) _ from hL.get (by simp)) 1 _ rfl
  have p2 := BoxN.cell (show (BoxN w3.heap.size 39 #[.int .i64 3, .slice (some ⟨gx, 0, none⟩) 2 xc, .string (bs S3), .slice pa 7 pc]) _ from hL.get (by simp)) 2 _ rfl
  have p3 := BoxN.cell (show (BoxN w3.heap.size 39 #[.int .i64 3, .slice (some ⟨gx, 0, none⟩) 2 xc, .string (bs S3), .slice pa 7 pc]) _ from hL.get (by simp)) 3 _ rfl
  have q0 := BoxN.cell (show (BoxN w4.heap.size 39 #[.int .i64 4, .slice ya 0 yc, .string (bs S4), .slice qa qn qc]) _ from hL.get (by simp)) 0 _ rfl
  have q1 := BoxN.cell (show (BoxN w4.heap.size 39 #[.int .i64 4, .slice ya 0 yc, .string (bs S4), .slice qa qn qc]) _ from hL.get (by simp)) 1 _ rfl
  have q2 := BoxN.cell (show (BoxN w4.heap.size 39 #[.int .i64 4, .slice ya 0 yc, .string (bs S4), .slice qa qn qc]) _ from hL.get (by simp)) 2 _ rfl
  have q3 := BoxN.cell (show (BoxN w4.heap.size 39 #[.int .i64 4, .slice ya 0 yc, .string (bs S4), .slice qa qn qc]) _ from hL.get (by simp)) 3 _ rfl
  have l0 := BoxN.cell (show (BoxN W9.heap.size 39 #[.int .i64 3, .slice (some ⟨gx, 0, none⟩) 1 xc, .string (bs S3), .slice pa 7 pc]) _ from hL.get (by simp)) 0 _ rfl
  have l1 := BoxN.cell (show (BoxN W9.heap.size 39 #[.int .i64 3, .slice (some ⟨gx, 0, none⟩) 1 xc, .string (bs S3), .slice pa 7 pc]) _ from hL.get (by simp)) 1 _ rfl
  have l2 := BoxN.cell (show (BoxN W9.heap.size 39 #[.int .i64 3, .slice (some ⟨gx, 0, none⟩) 1 xc, .string (bs S3), .slice pa 7 pc]) _ from hL.get (by simp)) 2 _ rfl
  have l3 := BoxN.cell (show (BoxN W9.heap.size 39 #[.int .i64 3, .slice (some ⟨gx, 0, none⟩) 1 xc, .string (bs S3), .slice pa 7 pc]) _ from hL.get (by simp)) 3 _ rfl
  have HL14 := Lib.hid hL
  clear hL
  go_wp2_with fail
  clear a0 a1 p0 p1 p2 p3 q0 q1 q2 q3 l0 l1 l2 l3
  refine (check_any S3 3 (.slice (some ⟨gx, 0, none⟩) 2 xc) [vn0, vn1] S3 (.slice pa 7 pc) P3 _ (show (RowsN noteK (.slice (some ⟨gx, 0, none⟩) 2 xc) [vn0, vn1]) _ from HL14.out.get (by simp)) (by decide) (show (StrsN (.slice pa 7 pc) P3) _ from HL14.out.get (by simp)) (by rw [HP3l.out]; decide) HL14.out.rounds).mono ?_
  rintro e w15 ⟨rfl, hb⟩
  rw [HC4.out]
  have hL := HL14.out.step hb
  clear hb HL14
  have a0 := BoxN.cell (show (BoxN w1.heap.size 26 #[.string (bs K), .slice (some ⟨g, 0, none⟩) 3 3]) _ from hL.get (by simp)) 0 _ rfl
  have a1 := BoxN.cell (show (BoxN w1.heap.size 26 #[.string (bs K), .slice (some ⟨g, 0, none⟩) 3 3]) _ from hL.get (by simp)) 1 _ rfl
  have p0 := BoxN.cell (show (BoxN w3.heap.size 39 #[.int .i64 3, .slice (some ⟨gx, 0, none⟩) 2 xc, .string (bs S3), .slice pa 7 pc]) _ from hL.get (by simp)) 0 _ rfl
  have p1 := BoxN.cell (show (BoxN w3.heap.size 39 #[.int .i64 3, .slice (some ⟨gx, 0, none⟩) 2 xc, .string (bs S3), .slice pa 7 pc]) _ from hL.get (by simp)) 1 _ rfl
  have p2 := BoxN.cell (show (BoxN w3.heap.size 39 #[.int .i64 3, .slice (some ⟨gx, 0, none⟩) 2 xc, .string (bs S3), .slice pa 7 pc]) _ from hL.get (by simp)) 2 _ rfl
  have p3 := BoxN.cell (show (BoxN w3.heap.size 39 #[.int .i64 3, .slice (some ⟨gx, 0, none⟩) 2 xc, .string (bs S3), .slice pa 7 pc]) _ from hL.get (by simp)) 3 _ rfl
  have q0 := BoxN.cell (show (BoxN w4.heap.size 39 #[.int .i64 4, .slice ya 0 yc, .string (bs S4), .slice qa qn qc]) _ from hL.get (by simp)) 0 _ rfl
  have q1 := BoxN.cell (show (BoxN w4.heap.size 39 #[.int .i64 4, .slice ya 0 yc, .string (bs S4), .slice qa qn qc]) _ from hL.get (by simp)) 1 _ rfl
  have q2 := BoxN.cell (show (BoxN w4.heap.size 39 #[.int .i64 4, .slice ya 0 yc, .string (bs S4), .slice qa qn qc]) _ from hL.get (by simp)) 2 _ rfl
  have q3 := BoxN.cell (show (BoxN w4.heap.size 39 #[.int .i64 4, .slice ya 0 yc, .string (bs S4), .slice qa qn qc]) _ from hL.get (by simp)) 3 _ rfl
  have l0 := BoxN.cell (show (BoxN W9.heap.size 39 #[.int .i64 3, .slice (some ⟨gx, 0, none⟩) 1 xc, .string (bs S3), .slice pa 7 pc]) _ from hL.get (by simp)) 0 _ rfl
  have l1 := BoxN.cell (show (BoxN W9.heap.size 39 #[.int .i64 3, .slice (some ⟨gx, 0, none⟩) 1 xc, .string (bs S3), .slice pa 7 pc]) _ from hL.get (by simp)) 1 _ rfl
  have l2 := BoxN.cell (show (BoxN W9.heap.size 39 #[.int .i64 3, .slice (some ⟨gx, 0, none⟩) 1 xc, .string (bs S3), .slice pa 7 pc]) _ from hL.get (by simp)) 2 _ rfl
  have l3 := BoxN.cell (show (BoxN W9.heap.size 39 #[.int .i64 3, .slice (some ⟨gx, 0, none⟩) 1 xc, .string (bs S3), .slice pa 7 pc]) _ from hL.get (by simp)) 3 _ rfl
  have o0 := (ElAt.page ((show RowsAt pageK _ _ _ _ from (show (RowsN pageK (.slice (some ⟨oa, 0, none⟩) 1 oc) [r1]) _ from hL.get (by simp))).el 0 r1 rfl)).1
  rw [show 0 + 0 * pageK.size = 0 from rfl] at o0
  have o1 := (ElAt.page ((show RowsAt pageK _ _ _ _ from (show (RowsN pageK (.slice (some ⟨ta, 0, none⟩) 2 tc) [r2, r3]) _ from hL.get (by simp))).el 1 r3 rfl)).1
  rw [show 0 + 1 * pageK.size = 4 from rfl] at o1
  have o2 := (ElAt.note ((show RowsAt noteK _ _ _ _ from (show (RowsN noteK (.slice (some ⟨gq, 0, none⟩) 1 cq) [vn0]) _ from hL.get (by simp))).el 0 vn0 rfl)).2.2.2
  rw [show 0 + 0 * noteK.size + 3 = 3 from rfl, show bs vn0.text = (⟨#[99, 114, 97, 99, 107]⟩ : ByteArray) from rfl] at o2
  have HL15 := Lib.hid hL
  clear hL
  go_wp2_with fail
  clear a0 a1 p0 p1 p2 p3 q0 q1 q2 q3 l0 l1 l2 l3 o0 o1 o2
  refine (may_any (.slice (some ⟨t, 0, none⟩) 3 3) vT 6 7 49 _ (show (RowsN titleK (.slice (some ⟨t, 0, none⟩) 3 3) vT) _ from HL15.out.get (by simp)) (by decide)).mono ?_
  rintro e w16 ⟨rfl, hb⟩
  rw [HM1.out]
  have hL := HL15.out.step hb
  clear hb HL15
  have a0 := BoxN.cell (show (BoxN w1.heap.size 26 #[.string (bs K), .slice (some ⟨g, 0, none⟩) 3 3]) _ from hL.get (by simp)) 0 _ rfl
  have a1 := BoxN.cell (show (BoxN w1.heap.size 26 #[.string (bs K), .slice (some ⟨g, 0, none⟩) 3 3]) _ from hL.get (by simp)) 1 _ rfl
  have o0 := (ElAt.page ((show RowsAt pageK _ _ _ _ from (show (RowsN pageK (.slice (some ⟨oa, 0, none⟩) 1 oc) [r1]) _ from hL.get (by simp))).el 0 r1 rfl)).1
  rw [show 0 + 0 * pageK.size = 0 from rfl] at o0
  have o1 := (ElAt.page ((show RowsAt pageK _ _ _ _ from (show (RowsN pageK (.slice (some ⟨ta, 0, none⟩) 2 tc) [r2, r3]) _ from hL.get (by simp))).el 1 r3 rfl)).1
  rw [show 0 + 1 * pageK.size = 4 from rfl] at o1
  have o2 := (ElAt.note ((show RowsAt noteK _ _ _ _ from (show (RowsN noteK (.slice (some ⟨gq, 0, none⟩) 1 cq) [vn0]) _ from hL.get (by simp))).el 0 vn0 rfl)).2.2.2
  rw [show 0 + 0 * noteK.size + 3 = 3 from rfl, show bs vn0.text = (⟨#[99, 114, 97, 99, 107]⟩ : ByteArray) from rfl] at o2
  have HL16 := Lib.hid hL
  clear hL
  go_wp2_with fail
  clear a0 a1  o0 o1 o2
  refine (may_any (.slice (some ⟨t, 0, none⟩) 3 3) vT 6 7 50 _ (show (RowsN titleK (.slice (some ⟨t, 0, none⟩) 3 3) vT) _ from HL16.out.get (by simp)) (by decide)).mono ?_
  rintro e w17 ⟨rfl, hb⟩
  rw [HM2.out]
  have hL := HL16.out.step hb
  clear hb HL16
  have a0 := BoxN.cell (show (BoxN w1.heap.size 26 #[.string (bs K), .slice (some ⟨g, 0, none⟩) 3 3]) _ from hL.get (by simp)) 0 _ rfl
  have a1 := BoxN.cell (show (BoxN w1.heap.size 26 #[.string (bs K), .slice (some ⟨g, 0, none⟩) 3 3]) _ from hL.get (by simp)) 1 _ rfl
  have o0 := (ElAt.page ((show RowsAt pageK _ _ _ _ from (show (RowsN pageK (.slice (some ⟨oa, 0, none⟩) 1 oc) [r1]) _ from hL.get (by simp))).el 0 r1 rfl)).1
  rw [show 0 + 0 * pageK.size = 0 from rfl] at o0
  have o1 := (ElAt.page ((show RowsAt pageK _ _ _ _ from (show (RowsN pageK (.slice (some ⟨ta, 0, none⟩) 2 tc) [r2, r3]) _ from hL.get (by simp))).el 1 r3 rfl)).1
  rw [show 0 + 1 * pageK.size = 4 from rfl] at o1
  have o2 := (ElAt.note ((show RowsAt noteK _ _ _ _ from (show (RowsN noteK (.slice (some ⟨gq, 0, none⟩) 1 cq) [vn0]) _ from hL.get (by simp))).el 0 vn0 rfl)).2.2.2
  rw [show 0 + 0 * noteK.size + 3 = 3 from rfl, show bs vn0.text = (⟨#[99, 114, 97, 99, 107]⟩ : ByteArray) from rfl] at o2
  have HL17 := Lib.hid hL
  clear hL
  go_wp2_with fail
  clear a0 a1  o0 o1 o2
  refine (titled_any (.slice (some ⟨t, 0, none⟩) 3 3) vT _ (show (RowsN titleK (.slice (some ⟨t, 0, none⟩) 3 3) vT) _ from HL17.out.get (by simp)) (by decide)).mono ?_
  rintro e w18 ⟨rfl, hb⟩
  rw [HTi.out]
  have hL := HL17.out.step hb
  clear hb HL17
  have a0 := BoxN.cell (show (BoxN w1.heap.size 26 #[.string (bs K), .slice (some ⟨g, 0, none⟩) 3 3]) _ from hL.get (by simp)) 0 _ rfl
  have a1 := BoxN.cell (show (BoxN w1.heap.size 26 #[.string (bs K), .slice (some ⟨g, 0, none⟩) 3 3]) _ from hL.get (by simp)) 1 _ rfl
  have o0 := (ElAt.page ((show RowsAt pageK _ _ _ _ from (show (RowsN pageK (.slice (some ⟨oa, 0, none⟩) 1 oc) [r1]) _ from hL.get (by simp))).el 0 r1 rfl)).1
  rw [show 0 + 0 * pageK.size = 0 from rfl] at o0
  have o1 := (ElAt.page ((show RowsAt pageK _ _ _ _ from (show (RowsN pageK (.slice (some ⟨ta, 0, none⟩) 2 tc) [r2, r3]) _ from hL.get (by simp))).el 1 r3 rfl)).1
  rw [show 0 + 1 * pageK.size = 4 from rfl] at o1
  have o2 := (ElAt.note ((show RowsAt noteK _ _ _ _ from (show (RowsN noteK (.slice (some ⟨gq, 0, none⟩) 1 cq) [vn0]) _ from hL.get (by simp))).el 0 vn0 rfl)).2.2.2
  rw [show 0 + 0 * noteK.size + 3 = 3 from rfl, show bs vn0.text = (⟨#[99, 114, 97, 99, 107]⟩ : ByteArray) from rfl] at o2
  have HL18 := Lib.hid hL
  clear hL
  go_wp2_with fail
  clear a0 a1  o0 o1 o2
  refine (vValid_any K (.slice (some ⟨g, 0, none⟩) 3 3) [vn0, vn1, vn2] _ (show (RowsN noteK (.slice (some ⟨g, 0, none⟩) 3 3) [vn0, vn1, vn2]) _ from HL18.out.get (by simp)) (by decide)).mono ?_
  rintro e w19 ⟨rfl, hb⟩
  rw [HV1.out]
  have hL := HL18.out.step hb
  clear hb HL18
  have a0 := BoxN.cell (show (BoxN w1.heap.size 26 #[.string (bs K), .slice (some ⟨g, 0, none⟩) 3 3]) _ from hL.get (by simp)) 0 _ rfl
  have a1 := BoxN.cell (show (BoxN w1.heap.size 26 #[.string (bs K), .slice (some ⟨g, 0, none⟩) 3 3]) _ from hL.get (by simp)) 1 _ rfl
  have o0 := (ElAt.page ((show RowsAt pageK _ _ _ _ from (show (RowsN pageK (.slice (some ⟨oa, 0, none⟩) 1 oc) [r1]) _ from hL.get (by simp))).el 0 r1 rfl)).1
  rw [show 0 + 0 * pageK.size = 0 from rfl] at o0
  have o1 := (ElAt.page ((show RowsAt pageK _ _ _ _ from (show (RowsN pageK (.slice (some ⟨ta, 0, none⟩) 2 tc) [r2, r3]) _ from hL.get (by simp))).el 1 r3 rfl)).1
  rw [show 0 + 1 * pageK.size = 4 from rfl] at o1
  have o2 := (ElAt.note ((show RowsAt noteK _ _ _ _ from (show (RowsN noteK (.slice (some ⟨gq, 0, none⟩) 1 cq) [vn0]) _ from hL.get (by simp))).el 0 vn0 rfl)).2.2.2
  rw [show 0 + 0 * noteK.size + 3 = 3 from rfl, show bs vn0.text = (⟨#[99, 114, 97, 99, 107]⟩ : ByteArray) from rfl] at o2
  have HL19 := Lib.hid hL
  clear hL
  go_wp2_with fail
  clear a0 a1  o0 o1 o2
  refine (vValid_any [] (.slice none 0 0) [] _ (RowsAt.nil _ _) (by decide)).mono ?_
  rintro e w20 ⟨rfl, hb⟩
  rw [HV2.out]
  have hL := HL19.out.step hb
  clear hb HL19
  have HL20 := Lib.hid hL
  clear hL
  go_wp2
  go_ret
  exact ⟨rfl, HL20.out.below⟩
end Go.Proofs.YteicimmdcdjagaaGreatDoor
