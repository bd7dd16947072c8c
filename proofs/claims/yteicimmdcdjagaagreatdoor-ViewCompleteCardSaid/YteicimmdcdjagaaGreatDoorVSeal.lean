import Derived.Test.YteicimmdcdjagaaGreatDoorVBuild
import Derived.Test.YteicimmdcdjagaaGreatDoorMTreeB
set_option linter.unusedVariables false
set_option linter.unusedSimpArgs false

/- view: salt, Salt, seal. -/
set_option linter.unusedVariables false
set_option linter.unusedSimpArgs false
namespace Go.Proofs.YteicimmdcdjagaaGreatDoor
open Go.RowKit Go.Shelf

set_option maxRecDepth 100000 in
set_option maxHeartbeats 1000000 in
theorem salt_any (key : Bytes) (id : Int) (w : World) (hi : EncZ id) (hk : key.length ≤ 1000000) (hT : Rounds w) :
    Calls Tryz.prog 40 #[.string (bs key), .int .i64 id] w fun e w' => e = .returned (.string (bs (saltB key id))) ∧ Below w.heap.size w w' := by
  have HP : Hid (putInt id = (enc (zz id), 0)) := if_pos hi
  have hel := enc_length (zz id)
  have HG : Hid (saltB key id = nodeB key (leafB (enc (zz id)))) := rfl
  have hks : (bs key).size ≤ 1000000 := by rw [bs_size]; exact hk
  have hes : (bs (enc (zz id))).size ≤ 10 := by rw [bs_size]; exact hel
  have hls : (bs (leafB (enc (zz id)))).size = 32 := by rw [bs_size]; exact leafB_length _
  have HT := Lib.hid hT
  clear hi hT hel
  go_enter Tryz.func40, Tryz.ntmps40
  go_wp2_with fail
  refine (putInt_any id w).mono ?_
  rintro e w1 ⟨rfl, hb⟩
  rw [HP.out, show strV (enc (zz id)) = .string (bs (enc (zz id))) from rfl]
  generalize enc (zz id) = E at *
  have HB1 := Lib.hid hb
  clear hb HP
  go_wp2_with fail
  refine (leaf_any (bs E) w1 (by omega) (HT.out.below HB1.out (Nat.le_refl _))).mono ?_
  rintro e w2 ⟨rfl, hb⟩
  rw [bs_list]
  have HB2 := Lib.hid (HB1.out.trans (hb.mono HB1.out.size))
  clear hb
  go_wp2_with fail
  refine (node_any (bs key) (bs (leafB E)) w2 (by omega) (by omega) (HT.out.below HB2.out (Nat.le_refl _))).mono ?_
  rintro e w3 ⟨rfl, hb⟩
  rw [bs_list, bs_list, ← HG.out]
  have HB3 := Lib.hid (HB2.out.trans (hb.mono HB2.out.size))
  clear hb
  go_wp2
  go_ret
  exact ⟨rfl, HB3.out⟩
/-- What Salt returns. -/
def saltE (key : Bytes) (id : Int) : Bytes × Int := if decide (key.length = 32) && inZ id 0 99 then (saltB key id, 0) else ([], 400)
theorem vsize32_f {x : Bytes} (h : x.length = 32) : (((bs x).size : Int) != 32) = false := by rw [bs_size, h]; rfl
theorem vsize32_t {x : Bytes} (h : ¬ x.length = 32) : (((bs x).size : Int) != 32) = true := by
  rw [bs_size]
  simp only [bne_iff_ne]
  omega
set_option maxRecDepth 100000 in
set_option maxHeartbeats 1000000 in
theorem vSalt_any (key : Bytes) (id : Int) (w : World) (hT : Rounds w) :
    Calls Tryz.prog 12 #[.string (bs key), .int .i64 id] w fun e w' => e = .returned (.tuple #[.string (bs (saltE key id).1), .int .i64 (saltE key id).2]) ∧ Below w.heap.size w w' := by
  have HT := Lib.hid hT
  clear hT
  by_cases h : key.length = 32
  rotate_left
  · have HE : Hid (saltE key id = ([], 400)) := by show _ = _; unfold saltE; rw [decide_eq_false h]; rfl
    have d := vsize32_t h
    clear h
    go_enter Tryz.func12, Tryz.ntmps12
    go_wp2
    go_ret2
    exact ⟨by rw [HE.out]; rfl, Below.refl _ _⟩
  have d := vsize32_f h
  cases hi : inZ id 0 99
  · have HE : Hid (saltE key id = ([], 400)) := by show _ = _; unfold saltE; rw [hi, Bool.and_false]; rfl
    have HI := Lib.hid (fun W => visIn_eq hi W)
    clear h hi
    go_enter Tryz.func12, Tryz.ntmps12
    go_wp2_with fail
    refine (HI.out _).mono ?_
    rintro e w' ⟨rfl, rfl⟩
    go_wp2
    go_ret2
    exact ⟨by rw [HE.out]; rfl, Below.refl _ _⟩
  · have HE : Hid (saltE key id = (saltB key id, 0)) := by show _ = _; unfold saltE; rw [hi, decide_eq_true h]; rfl
    have HI := Lib.hid (fun W => visIn_eq hi W)
    have hz := inZ_iff.1 hi
    have HS := Lib.hid (fun W (hb : Rounds W) => salt_any key id W (by unfold EncZ; omega) (by omega) hb)
    clear h hi hz
    go_enter Tryz.func12, Tryz.ntmps12
    go_wp2_with fail
    refine (HI.out _).mono ?_
    rintro e w' ⟨rfl, rfl⟩
    go_wp2_with fail
    refine (HS.out _ HT.out).mono ?_
    rintro e w1 ⟨rfl, hb⟩
    have HB := Lib.hid hb
    clear hb
    go_wp2
    go_ret2
    exact ⟨by rw [HE.out]; rfl, HB.out⟩
theorem notesC_succ (l : List VNote) (k : Nat) (h : k < l.length) : notesC (l.take (k + 1)) = notesC (l.take k) ++ noteC (l.getD k default) := by
  rw [take_getD l default k h]
  simp [notesC]
theorem noteC_length {n : VNote} (h : NoteZ n) : (noteC n).length ≤ 66000 := by
  have h1 := enc_length (zz n.day)
  have h2 := enc_length (zz n.kind)
  have h3 := enc_length (zz (n.text.length : Int))
  have h4 := h.2.2
  simp only [noteC, encS, List.length_append]
  omega
theorem notesC_length {l : List VNote} (h : ∀ n ∈ l, NoteZ n) : (notesC l).length ≤ 66000 * l.length := by
  induction l with
  | nil => simp [notesC]
  | cons x t ih =>
    have h1 := noteC_length (h x (by simp))
    have h2 := ih (fun n hn => h n (by simp [hn]))
    simp only [notesC, List.flatMap_cons, List.length_append, List.length_cons] at *
    omega
set_option maxRecDepth 100000 in
set_option maxHeartbeats 4000000 in
theorem seal_any (salt : Bytes) (nv : Value) (l : List VNote) (w : World) (h : RowsAt noteK w.heap.size w nv l) (hz : ∀ n ∈ l, NoteZ n) (hl : l.length ≤ 1000) (hs : salt.length ≤ 1000000) (hT : Rounds w) :
    Calls Tryz.prog 53 #[.string (bs salt), nv] w fun e w' => e = .returned (.string (bs (sealB salt l))) ∧ Below w.heap.size w w' := by
  obtain ⟨a, c, rfl, hlc, hcm⟩ := h.shape
  unfold maxLen at hcm
  have HL := Lib.hid h
  have HT := Lib.hid hT
  have HZ := Lib.hid hz
  have HG : Hid (sealB salt l = nodeB salt (leafB (enc (zz (l.length : Int)) ++ notesC l))) := rfl
  have hss : (bs salt).size ≤ 1000000 := by rw [bs_size]; exact hs
  clear h hT hz hs
  generalize hn : l.length = n at *
  have HN := Lib.hid hn
  clear hn
  go_enter Tryz.func53, Tryz.ntmps53
  go_wp2_with fail
  have hb0 : Below w.heap.size w (w.alloc (.cells #[.pointer none, .slice none 0 0] 133)) := (Below.refl _ _).alloc (Nat.le_refl _) _
  have hb3 : Below (w.heap.size + 1) (w.alloc (.cells #[.pointer none, .slice none 0 0] 133)) ((w.alloc (.cells #[.pointer none, .slice none 0 0] 133)).alloc (.cells #[.int .i64 n] 3)) := (Below.refl _ _).alloc (by simp) _
  refine (numbers_any w.heap.size w.heap.size (w.heap.size + 1) [] [(n : Int)] 1 rfl _ (isWr_below (isWr_new w) hb3 (by simp)) (by have := heap_alloc_new (w.alloc (.cells #[.pointer none, .slice none 0 0] 133)) (.cells #[.int .i64 n] 3); rw [World.size_alloc] at this; exact this) ?_ (by omega) (by simp) (by simp; omega)).mono ?_
  · intro i hi
    match i, hi with
    | 0, _ => show EncZ (n : Int); unfold EncZ; omega
  rintro e w2 ⟨rfl, hw2, hb2, _⟩
  rw [List.nil_append, show numsB [(n : Int)] = enc (zz (n : Int)) from by simp [numsB]] at hw2
  have HW2 : Hid (IsWr w.heap.size w.heap.size (Lib.byteCells (enc (zz (n : Int)) ++ notesC (l.take 0))) w2) := by
    show IsWr _ _ _ _
    rw [List.take_zero, show notesC [] = [] from rfl, List.append_nil]
    exact hw2
  have HB2 := Lib.hid ((hb0.trans (hb3.mono (Nat.le_succ _))).trans hb2)
  have hwz2 : w.heap.size < w2.heap.size := by have := hb2.size; simp only [World.size_alloc] at this; omega
  clear hw2 hb0 hb3 hb2
  go_wp2
  go_loopw [16] (fun i wr => ∃ k : Nat, k ≤ n ∧ i = .int .i64 k ∧ Hid (IsWr w.heap.size w.heap.size (Lib.byteCells (enc (zz (n : Int)) ++ notesC (l.take k))) wr) ∧ Hid (Below w.heap.size w wr) ∧ w.heap.size < wr.heap.size) (fun i _ => n - (intOf i).toNat)
  case atStart => exact ⟨0, Nat.zero_le _, rfl, HW2, HB2, hwz2⟩
  case round =>
    clear HW2 HB2
    obtain ⟨k, hk, rfl, HW, HB, hwz⟩ := hrel
    by_cases h1 : k < n
    · have ji : (k : Int) < (n : Int) := by omega
      have j0 : 0 ≤ (k : Int) := by omega
      obtain ⟨x, hx⟩ : ∃ x, x = l.getD k default := ⟨_, rfl⟩
      have hget : l[k]? = some x := by rw [hx, List.getD_eq_getElem?_getD, List.getElem?_eq_getElem (by rw [HN.out]; exact h1)]; rfl
      obtain ⟨b, off, hae, hb, hat⟩ := notes_at (HL.out.later HB.out (Nat.le_refl _)) k x hget
      subst hae
      obtain ⟨p0, p1, p2, p3⟩ := hat
      have hxz := HZ.out x (List.mem_of_getElem? hget)
      have HXz := Lib.hid hxz
      have hxl := noteC_length hxz
      have HS : Hid (notesC (l.take (k + 1)) = notesC (l.take k) ++ (numsB [x.day, x.kind] ++ encS x.text)) := by
        show _ = _
        rw [notesC_succ l k (by rw [HN.out]; exact h1), ← hx]
        simp [noteC, numsB]
      have hcl : (notesC (l.take k)).length ≤ 66000 * 1000 := by
        have := notesC_length (l := l.take k) (fun n hn => HZ.out n (List.mem_of_mem_take hn))
        rw [List.length_take] at this
        omega
      have hel := enc_length (zz (n : Int))
      have hes : (encS x.text).length ≤ 66000 := by simp only [noteC, List.length_append] at hxl; omega
      have hts : (bs x.text).size ≤ 65536 := by rw [bs_size]; exact hxz.2.2
      have HP : Hid (putStr x.text = (encS x.text, 0)) := if_pos hxz.2.2
      have hbx := box_new wr 48 (noteR x)
      obtain ⟨q0, q1, q2, q3⟩ := NoteN.cells hbx
      obtain ⟨C, hC⟩ : ∃ C, C = enc (zz (n : Int)) ++ notesC (l.take k) := ⟨_, rfl⟩
      rw [← hC] at HW
      have hCl : C.length ≤ 100000000 := by rw [hC, List.length_append]; omega
      have HC := Lib.hid hC
      have HBx := Lib.hid hbx
      clear hx hget hxz hxl hcl hel hC hbx
      go_wp2_with fail
      have hb3 : Below wr.heap.size wr ((wr.alloc (.cells (noteR x) 48)).alloc (.cells #[.int .i64 x.day, .int .i64 x.kind] 3)) := ((Below.refl _ _).alloc (Nat.le_refl _) _).alloc (by simp) _
      refine (numbers_any w.heap.size w.heap.size (wr.heap.size + 1) C [x.day, x.kind] 2 rfl _ (isWr_below HW.out hb3 (Nat.le_refl _)) (by have := heap_alloc_new (wr.alloc (.cells (noteR x) 48)) (.cells #[.int .i64 x.day, .int .i64 x.kind] 3); rw [World.size_alloc] at this; exact this) ?_ (by omega) (by omega) (by simp; omega)).mono ?_
      · intro i hi
        match i, hi with
        | 0, _ => exact HXz.out.1
        | 1, _ => exact HXz.out.2.1
      rintro e w3 ⟨rfl, hw3, hb4, hk4⟩
      have hbx3 : BoxN wr.heap.size 48 (noteR x) w3 := hk4 _ _ _ _ (keep_box HBx.out _ ((Below.refl _ _).alloc (Nat.le_refl _) _)) (by decide) (by decide)
      obtain ⟨r0, r1, r2, r3⟩ := NoteN.cells hbx3
      have HW3 := Lib.hid hw3
      have HB3 := Lib.hid ((HB.out.trans (hb3.mono HB.out.size)).trans hb4)
      have hz3 : w.heap.size < w3.heap.size := by have h1 := hb4.size; simp only [World.size_alloc] at h1; omega
      clear hw3 hb3 hb4 hk4 hbx3 q0 q1 q2 q3 p0 p1 p2 p3 HW
      go_wp2_with fail
      refine (putString_any (bs x.text) w3 (by unfold maxLen; omega)).mono ?_
      rintro e w4 ⟨rfl, hb⟩
      rw [bs_list, HP.out, show strV (encS x.text) = .string (bs (encS x.text)) from rfl]
      have HW4 := Lib.hid (isWr_below HW3.out hb (Nat.le_refl _))
      have HB4 := Lib.hid (HB3.out.trans (hb.mono HB3.out.size))
      have hz4 : w.heap.size < w4.heap.size := by have := hb.size; have := hz3; omega
      have hsz : (bs (encS x.text)).size ≤ 66000 := by rw [bs_size]; exact hes
      have hnl := numsB_length [x.day, x.kind]
      simp only [List.length_cons, List.length_nil] at hnl
      clear hb HW3 HB3 r0 r1 r2 r3
      go_wp2_with fail
      refine (wr_write w.heap.size w.heap.size _ (bs (encS x.text)) w4 HW4.out (by rw [Lib.byteCells_length, List.length_append]; omega) (by omega)).mono ?_
      rintro e w5 ⟨rfl, hw5, hb5, _⟩
      rw [strCells_bs, ← byteCells_app, HC.out, List.append_assoc, List.append_assoc, ← HS.out] at hw5
      have HW5 : Hid (IsWr w.heap.size w.heap.size (Lib.byteCells (enc (zz (n : Int)) ++ notesC (l.take (k + 1)))) w5) := .inr hw5
      have HB5 := Lib.hid (HB4.out.trans hb5)
      have hz5 : w.heap.size < w5.heap.size := by have := hb5.size; omega
      clear hw5 hb5 HW4 HB4
      go_wp2
      go_roundw
      case rel => exact ⟨k + 1, by omega, by go_num, HW5, HB5, hz5⟩
      case measure => simp [intOf]; omega
    · obtain rfl : k = n := by omega
      have ji : ¬ ((k : Int) < (k : Int)) := by omega
      have hW := HW.out
      rw [List.take_of_length_le (by rw [HN.out]; exact Nat.le_refl _)] at hW
      have hel := enc_length (zz (k : Int))
      have hnc := notesC_length HZ.out
      rw [HN.out] at hnc
      have hpos := enc_pos (zz (k : Int))
      obtain ⟨C, hC⟩ : ∃ C, C = enc (zz (k : Int)) ++ notesC l := ⟨_, rfl⟩
      rw [← hC] at hW HG
      have hCl : C.length ≤ 100000000 := by rw [hC, List.length_append]; omega
      have hCn : C ≠ [] := fun e => by have := congrArg List.length (hC.symm.trans e); rw [List.length_append, List.length_nil] at this; omega
      have HWf := Lib.hid hW
      have HCn := Lib.hid hCn
      have hcs : (bs C).size ≤ 100000000 := by rw [bs_size]; exact hCl
      have hls : (bs (leafB C)).size = 32 := by rw [bs_size]; exact leafB_length _
      clear hW hel hnc hpos hC hCn h1 hk HW
      go_wp2_with fail
      refine (wr_string w.heap.size w.heap.size _ wr HWf.out HCn.out).mono ?_
      rintro e w5 ⟨rfl, hb5⟩
      rw [show (⟨C.toArray⟩ : ByteArray) = bs C from rfl]
      have HB5 := Lib.hid (HB.out.trans hb5)
      clear hb5
      go_wp2_with fail
      refine (leaf_any (bs C) w5 (by omega) (HT.out.below HB5.out (Nat.le_refl _))).mono ?_
      rintro e w6 ⟨rfl, hb⟩
      rw [bs_list]
      have HB6 := Lib.hid (HB5.out.trans (hb.mono HB5.out.size))
      clear hb
      go_wp2_with fail
      refine (node_any (bs salt) (bs (leafB C)) w6 (by omega) (by omega) (HT.out.below HB6.out (Nat.le_refl _))).mono ?_
      rintro e w7 ⟨rfl, hb⟩
      rw [bs_list, bs_list, ← HG.out]
      have HB7 := Lib.hid (HB6.out.trans (hb.mono HB6.out.size))
      clear hb
      go_wp2
      go_ret
      exact ⟨rfl, HB7.out⟩
end Go.Proofs.YteicimmdcdjagaaGreatDoor
