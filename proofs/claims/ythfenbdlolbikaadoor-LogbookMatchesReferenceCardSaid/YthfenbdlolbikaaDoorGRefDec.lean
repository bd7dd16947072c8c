/- The reference's Decode of logbook. -/
import Derived.Test.YthfenbdlolbikaaDoorGRefEnc
import Derived.Test.YthfenbdlolbikaaDoorRefInt
set_option linter.unusedVariables false
set_option linter.unusedSimpArgs false
namespace Go.Proofs.YthfenbdlolbikaaDoor
open Go.RowKit Go.Shelf

/-- An array of four ints that holds the numbers read so far. -/
def FourX (W : World) (g : Nat) (xs : List Int) : Prop := W.heap[g]? = some (.cells #[.int .i64 (xs.getD 0 0), .int .i64 (xs.getD 1 0), .int .i64 (xs.getD 2 0), .int .i64 (xs.getD 3 0)] 37 (0, 0))
theorem fourX_set {w : World} {b j : Nat} {xs : List Int} (h : FourX w b xs) (hl : xs.length = j) (hj : j < 4) (n : Int) : FourX (w.setCell ⟨b, j, none⟩ (.int .i64 n)) b (xs ++ [n]) := by
  have := heap_set h j (.int .i64 n)
  unfold FourX
  rw [this]
  subst hl
  match xs, hj with
  | [], _ => rfl
  | [_], _ => rfl
  | [_, _], _ => rfl
  | [_, _, _], _ => rfl
theorem FourX.cells {W : World} {n : Nat} {xs : List Int} (h : FourX W n xs) : W.cell? ⟨n, 0, none⟩ = some (.int .i64 (xs.getD 0 0)) ∧ W.cell? ⟨n, 1, none⟩ = some (.int .i64 (xs.getD 1 0)) ∧ W.cell? ⟨n, 2, none⟩ = some (.int .i64 (xs.getD 2 0)) ∧ W.cell? ⟨n, 3, none⟩ = some (.int .i64 (xs.getD 3 0)) := by
  refine ⟨?_, ?_, ?_, ?_⟩ <;> (rw [Lib.cell_of_heap (show W.heap[n]? = _ from h)]; rfl)
abbrev recSet (w : World) (b : Nat) (x : LRec) : World := ((((w.setCell ⟨b, 0, none⟩ (.int .i64 x.sec)).setCell ⟨b, 1, none⟩ (.int .i64 x.kind)).setCell ⟨b, 2, none⟩ (.int .i64 x.a)).setCell ⟨b, 3, none⟩ (.int .i64 x.b)).setCell ⟨b, 4, none⟩ (.string (bs x.text))
theorem recSet_box {w : World} {b : Nat} {y : LRec} (h : RecBox w b y) (x : LRec) : RecBox (recSet w b x) b x :=
  heap_set (heap_set (heap_set (heap_set (heap_set h 0 (.int .i64 x.sec)) 1 (.int .i64 x.kind)) 2 (.int .i64 x.a)) 3 (.int .i64 x.b)) 4 (.string (bs x.text))
theorem recSet_below {B : Nat} {w0 w : World} {b : Nat} (h : Below B w0 w) (hb : B ≤ b) (x : LRec) : Below B w0 (recSet w b x) :=
  ((((h.setCell (p := ⟨b, 0, none⟩) hb _).setCell (p := ⟨b, 1, none⟩) hb _).setCell (p := ⟨b, 2, none⟩) hb _).setCell (p := ⟨b, 3, none⟩) hb _).setCell (p := ⟨b, 4, none⟩) hb _
set_option maxRecDepth 100000 in
set_option maxHeartbeats 4000000 in
theorem refDecode_any (s : ByteArray) (w : World) (hs : s.size ≤ maxLen) :
    Calls Tryd.prog 25 #[.string s] w fun e w' => e = .returned (.tuple #[recV (decE s.data.toList).1, .int .i64 (decE s.data.toList).2]) ∧ Below w.heap.size w w' := by
  have hlen := bsize s
  obtain ⟨l, hl⟩ : ∃ l, l = s.data.toList := ⟨_, rfl⟩
  rw [← hl] at hlen ⊢
  have HIA := Lib.hid (fun (a : Int) (W : World) => refInt_any s a W hs)
  have HSA := Lib.hid (fun (a : Int) (W : World) => refString_any s a W hs)
  rw [← hl] at HIA HSA
  unfold maxLen at hs
  clear hl
  have hb1 : Below w.heap.size w (w.alloc (.cells #[.int .i64 0, .int .i64 0, .int .i64 0, .int .i64 0, .string (⟨#[]⟩ : ByteArray)] 27)) := (Below.refl _ _).alloc (Nat.le_refl _) _
  have hB0 : Below w.heap.size w ((w.alloc (.cells #[.int .i64 0, .int .i64 0, .int .i64 0, .int .i64 0, .string (⟨#[]⟩ : ByteArray)] 27)).alloc (.cells #[.int .i64 0, .int .i64 0, .int .i64 0, .int .i64 0] 37)) := hb1.alloc (by simp) _
  have hx0 : RecBox ((w.alloc (.cells #[.int .i64 0, .int .i64 0, .int .i64 0, .int .i64 0, .string (⟨#[]⟩ : ByteArray)] 27)).alloc (.cells #[.int .i64 0, .int .i64 0, .int .i64 0, .int .i64 0] 37)) w.heap.size default := (recBox_new w default).below (B := w.heap.size + 1) ((Below.refl _ _).alloc (by simp) _) (by omega)
  have hf0 : FourX ((w.alloc (.cells #[.int .i64 0, .int .i64 0, .int .i64 0, .int .i64 0, .string (⟨#[]⟩ : ByteArray)] 27)).alloc (.cells #[.int .i64 0, .int .i64 0, .int .i64 0, .int .i64 0] 37)) (w.heap.size + 1) [] := by
    have := heap_alloc_new (w.alloc (.cells #[.int .i64 0, .int .i64 0, .int .i64 0, .int .i64 0, .string (⟨#[]⟩ : ByteArray)] 27)) (.cells #[.int .i64 0, .int .i64 0, .int .i64 0, .int .i64 0] 37)
    rw [World.size_alloc] at this
    exact this
  have HB0 := Lib.hid hB0
  have HX0 := Lib.hid hx0
  have HF0 := Lib.hid hf0
  clear hb1 hB0 hx0 hf0
  go_enter Tryd.func25, Tryd.ntmps25
  go_wp2
  go_loopw [5, 6] (fun at_ i wr => ∃ (j : Nat) (xs : List Int) (a : Nat), j ≤ 4 ∧ i = .int .i64 j ∧ at_ = .int .i64 a ∧ Hid (decN l j = some (xs, a)) ∧ RecBox wr w.heap.size default ∧ FourX wr (w.heap.size + 1) xs ∧ Below w.heap.size w wr) (fun _ i _ => 4 - (intOf i).toNat)
  case atStart => exact ⟨0, [], 0, Nat.zero_le _, rfl, rfl, rfl, HX0.out, HF0.out, HB0.out⟩
  case round =>
    clear HX0 HF0 HB0
    obtain ⟨j, xs, a, hj, rfl, rfl, HD, hbox, hfour, hB⟩ := hrel
    have hz := hB.size
    have hxl := decN_length HD.out
    have hal : ¬ ((a : Int) < 0 ∨ (l.length : Int) < (a : Int)) := by omega
    by_cases h4 : j < 4
    · have hj4 : (j : Int) < 4 := by omega
      have hj0 : 0 ≤ (j : Int) := by omega
      have HI2 : Hid (∀ W : World, Calls Tryd.prog 60 #[.string s, .int .i64 a] W fun e w' => e = .returned (intV l a) ∧ Below W.heap.size W w') := fun W => by
        have := HIA.out a W
        rwa [show intAt l a = intV l a from if_neg hal] at this
      have HBx := Lib.hid hbox
      have HFo := Lib.hid hfour
      have HB := Lib.hid hB
      cases hd : dec (l.drop a) with
      | none =>
        have HE := Lib.hid (decE_noint (decN_stop (decN_fail HD.out hd) 4 (by omega)))
        rw [intV_none hd] at HI2
        clear hd hlen hxl hal hbox hfour hB
        go_wp2_with fail
        refine (HI2.out _).mono ?_
        rintro e w1 ⟨rfl, hb⟩
        unfold tup3
        have hx1 := HBx.out.below hb HBx.out.lt
        have hfz : ∀ k, w1.frozen? ⟨w.heap.size, k, none⟩ = false := Lib.frozen_of_heap hx1
        obtain ⟨d0, d1, d2, d3, d4⟩ := hx1.cells
        have HS := Lib.hid (recSet_box hx1 default)
        have HBs := Lib.hid (recSet_below (HB.out.trans (hb.mono HB.out.size)) (Nat.le_refl _) default (b := w.heap.size))
        clear hb hx1
        obtain ⟨WF, hWF⟩ : ∃ W, W = (((((w1.setCell ⟨w.heap.size, 0, none⟩ (.int .i64 0)).setCell ⟨w.heap.size, 1, none⟩ (.int .i64 0)).setCell ⟨w.heap.size, 2, none⟩ (.int .i64 0)).setCell ⟨w.heap.size, 3, none⟩ (.int .i64 0)).setCell ⟨w.heap.size, 4, none⟩ (.string (⟨#[]⟩ : ByteArray))) := ⟨_, rfl⟩
        have HSF : Hid (RecBox WF w.heap.size default) := by rw [hWF]; exact HS.out
        have HBF : Hid (Below w.heap.size w WF) := by rw [hWF]; exact HBs.out
        have HWF := Lib.hid hWF
        clear hWF
        go_wp2
        rw [← HWF.out]
        obtain ⟨e0, e1, e2, e3, e4⟩ := HSF.out.cells
        exact bodyPost_ret (v := .tuple #[recV default, .int .i64 380]) (by simp [results, Tryd.results25, go_sem, e0, e1, e2, e3, e4]) rfl ⟨by rw [HE.out], HBF.out⟩
      | some p =>
        obtain ⟨n, c⟩ := p
        have HD2 := Lib.hid (decN_step HD.out hd)
        rw [intV_some hd] at HI2
        have hxj := hxl.1
        clear hd hlen hal hbox hfour hB HD
        go_wp2_with fail
        refine (HI2.out _).mono ?_
        rintro e w1 ⟨rfl, hb⟩
        unfold tup3
        have hx1 := HBx.out.below hb HBx.out.lt
        have hf1 : FourX w1 (w.heap.size + 1) xs := (hb.block _ (Array.getElem?_eq_some_iff.1 (show wr.heap[w.heap.size + 1]? = _ from HFo.out)).1).trans HFo.out
        have hfz : ∀ k, w1.frozen? ⟨w.heap.size + 1, k, none⟩ = false := Lib.frozen_of_heap hf1
        obtain ⟨d0, d1, d2, d3⟩ := hf1.cells
        have HFs := Lib.hid (fourX_set hf1 hxj h4 n)
        have HXs : Hid (RecBox (w1.setCell ⟨w.heap.size + 1, j, none⟩ (.int .i64 n)) w.heap.size default) := (heap_set_ne w1 (show w.heap.size ≠ w.heap.size + 1 by omega) j (.int .i64 n)).trans hx1
        have HBs := Lib.hid ((HB.out.trans (hb.mono HB.out.size)).setCell (p := ⟨w.heap.size + 1, j, none⟩) (by show w.heap.size ≤ w.heap.size + 1; omega) (.int .i64 n))
        have h3 : j = 0 ∨ j = 1 ∨ j = 2 ∨ j = 3 := by omega
        clear hb hx1 hf1 hxj hj4 hj0 h4 hxl
        rcases h3 with rfl | rfl | rfl | rfl
        all_goals
          go_wp2
          go_roundw
          case rel => exact ⟨_, _, _, by omega, by go_num, rfl, HD2, HXs.out, HFs.out, HBs.out⟩
          case measure => simp [intOf]
    · obtain rfl : j = 4 := by omega
      have HS2 : Hid (∀ W : World, Calls Tryd.prog 61 #[.string s, .int .i64 a] W fun e w' => e = .returned (match decS (l.drop a) with | some (t, c) => .tuple #[strV t, .int .i64 ((a : Int) + c), .int .i64 0] | none => .tuple #[strV [], .int .i64 0, .int .i64 10]) ∧ Below W.heap.size W w') := fun W => by
        have := HSA.out a W
        rwa [show strAt l a = _ from if_neg hal] at this
      have HBx := Lib.hid hbox
      have HFo := Lib.hid hfour
      have HB := Lib.hid hB
      cases hd : decS (l.drop a) with
      | none =>
        rw [hd] at HS2
        simp only at HS2
        have HE := Lib.hid (decE_nostr HD.out hd)
        clear hd hlen hxl hal hbox hfour hB
        go_wp2_with fail
        refine (HS2.out _).mono ?_
        rintro e w1 ⟨rfl, hb⟩
        rw [show strV [] = .string (⟨#[]⟩ : ByteArray) from rfl]
        have hx1 := HBx.out.below hb HBx.out.lt
        have hf1 : FourX w1 (w.heap.size + 1) xs := (hb.block _ (Array.getElem?_eq_some_iff.1 (show wr.heap[w.heap.size + 1]? = _ from HFo.out)).1).trans HFo.out
        obtain ⟨d0, d1, d2, d3⟩ := hf1.cells
        have hx2 : RecBox (w1.alloc (.cells #[.int .i64 (xs.getD 0 0), .int .i64 (xs.getD 1 0), .int .i64 (xs.getD 2 0), .int .i64 (xs.getD 3 0), .string (⟨#[]⟩ : ByteArray)] 27)) w.heap.size default := hx1.below ((Below.refl _ _).alloc (Nat.le_refl _) _) hx1.lt
        have hfz : ∀ k, (w1.alloc (.cells #[.int .i64 (xs.getD 0 0), .int .i64 (xs.getD 1 0), .int .i64 (xs.getD 2 0), .int .i64 (xs.getD 3 0), .string (⟨#[]⟩ : ByteArray)] 27)).frozen? ⟨w.heap.size, k, none⟩ = false := Lib.frozen_of_heap hx2
        obtain ⟨f0, f1, f2, f3, f4⟩ := hx2.cells
        have HS := Lib.hid (recSet_box hx2 default)
        have hBq := HB.out.trans (hb.mono HB.out.size)
        have HBs := Lib.hid (recSet_below (hBq.alloc hBq.size (.cells #[.int .i64 (xs.getD 0 0), .int .i64 (xs.getD 1 0), .int .i64 (xs.getD 2 0), .int .i64 (xs.getD 3 0), .string (⟨#[]⟩ : ByteArray)] 27)) (Nat.le_refl _) default (b := w.heap.size))
        clear hb hx1 hf1 hx2 hBq
        generalize xs.getD 0 0 = y0 at *
        generalize xs.getD 1 0 = y1 at *
        generalize xs.getD 2 0 = y2 at *
        generalize xs.getD 3 0 = y3 at *
        obtain ⟨WF, hWF⟩ : ∃ W, W = ((((((w1.alloc (.cells #[.int .i64 y0, .int .i64 y1, .int .i64 y2, .int .i64 y3, .string (⟨#[]⟩ : ByteArray)] 27)).setCell ⟨w.heap.size, 0, none⟩ (.int .i64 0)).setCell ⟨w.heap.size, 1, none⟩ (.int .i64 0)).setCell ⟨w.heap.size, 2, none⟩ (.int .i64 0)).setCell ⟨w.heap.size, 3, none⟩ (.int .i64 0)).setCell ⟨w.heap.size, 4, none⟩ (.string (⟨#[]⟩ : ByteArray))) := ⟨_, rfl⟩
        have HSF : Hid (RecBox WF w.heap.size default) := by rw [hWF]; exact HS.out
        have HBF : Hid (Below w.heap.size w WF) := by rw [hWF]; exact HBs.out
        have HWF := Lib.hid hWF
        clear hWF
        go_wp2
        rw [← HWF.out]
        obtain ⟨e0, e1, e2, e3, e4⟩ := HSF.out.cells
        exact bodyPost_ret (v := .tuple #[recV default, .int .i64 380]) (by simp [results, Tryd.results25, go_sem, e0, e1, e2, e3, e4]) rfl ⟨by rw [HE.out], HBF.out⟩
      | some p =>
        obtain ⟨t, c⟩ := p
        rw [hd] at HS2
        simp only at HS2
        have HE0 := Lib.hid (decE_str HD.out hd)
        have hle : a + c ≤ l.length := by
          have := (encS_of_decS hd).2.1
          rw [List.length_drop] at this
          omega
        obtain ⟨m, hm⟩ : ∃ m, m = a + c := ⟨_, rfl⟩
        rw [show ((a : Int) + c) = (m : Int) from by omega, show strV t = .string (bs t) from rfl] at HS2
        rw [← hm] at HE0
        have hms : m ≤ s.size := by omega
        have hll : (m = l.length) ↔ (m = s.size) := by omega
        have HLL := Lib.hid hll
        clear hd hlen hxl hal hbox hfour hB hm hle hll
        have HE1 : Hid (decE l = if m = s.size ∧ recB (recOf xs t) = true then (recOf xs t, 0) else (default, 380)) := by
          show _ = _
          rw [HE0.out]
          by_cases hml : m = l.length
          · have h2 := HLL.out.1 hml
            by_cases hr : recB (recOf xs t) = true
            · rw [if_pos ⟨hml, hr⟩, if_pos ⟨h2, hr⟩]
            · rw [if_neg (fun h => hr h.2), if_neg (fun h => hr h.2)]
          · rw [if_neg (fun h => hml h.1), if_neg (fun h => hml (HLL.out.2 h.1))]
        clear HE0 HLL
        go_wp2_with fail
        refine (HS2.out _).mono ?_
        rintro e w1 ⟨rfl, hb⟩
        have hx1 := HBx.out.below hb HBx.out.lt
        have hf1 : FourX w1 (w.heap.size + 1) xs := (hb.block _ (Array.getElem?_eq_some_iff.1 (show wr.heap[w.heap.size + 1]? = _ from HFo.out)).1).trans HFo.out
        obtain ⟨d0, d1, d2, d3⟩ := hf1.cells
        have hBq := HB.out.trans (hb.mono HB.out.size)
        obtain ⟨x, hx⟩ : ∃ x, x = recOf xs t := ⟨_, rfl⟩
        rw [← hx] at HE1
        rw [show xs.getD 0 0 = x.sec from by rw [hx]; rfl] at d0
        rw [show xs.getD 1 0 = x.kind from by rw [hx]; rfl] at d1
        rw [show xs.getD 2 0 = x.a from by rw [hx]; rfl] at d2
        rw [show xs.getD 3 0 = x.b from by rw [hx]; rfl] at d3
        rw [show bs t = bs x.text from by rw [hx]; rfl]
        have hx2 : RecBox (w1.alloc (.cells #[.int .i64 x.sec, .int .i64 x.kind, .int .i64 x.a, .int .i64 x.b, .string (bs x.text)] 27)) w.heap.size default := hx1.below ((Below.refl _ _).alloc (Nat.le_refl _) _) hx1.lt
        have hxn := recBox_new w1 x
        have hBa := hBq.alloc hBq.size (.cells #[.int .i64 x.sec, .int .i64 x.kind, .int .i64 x.a, .int .i64 x.b, .string (bs x.text)] 27)
        have hne : w1.heap.size ≠ w.heap.size := by have := hx1.lt; omega
        have HX2 := Lib.hid hx2
        have HXn := Lib.hid hxn
        have HBa := Lib.hid hBa
        have HS2' : Hid True := trivial
        clear hb hx hx1 hf1 hBq HBx HFo HB hx2 hxn hBa HD HIA HSA HS2
        by_cases hme : m = s.size
        · have dm : (m != s.size) = false := by simp [hme]
          have dm2 : ((m : Int) != (s.size : Int)) = false := by simp [hme]
          have HRv := Lib.hid (fun W => refvalid_any x W)
          obtain ⟨a0, a1, a2, a3, a4⟩ := HXn.out.cells
          cases hr : recB x
          · have HE : Hid (decE l = (default, 380)) := by show _ = _; rw [HE1.out, hr]; simp
            rw [hr] at HRv
            clear hr HE1 hme
            go_wp2_with fail
            refine (HRv.out _).mono ?_
            rintro e w2 ⟨rfl, hb⟩
            have hx3 := HX2.out.below hb HX2.out.lt
            have hB3 := HBa.out.trans (hb.mono HBa.out.size)
            have hfz : ∀ k, w2.frozen? ⟨w.heap.size, k, none⟩ = false := Lib.frozen_of_heap hx3
            obtain ⟨f0, f1, f2, f3, f4⟩ := hx3.cells
            obtain ⟨WF, hWF⟩ : ∃ W, W = (((((w2.setCell ⟨w.heap.size, 0, none⟩ (.int .i64 0)).setCell ⟨w.heap.size, 1, none⟩ (.int .i64 0)).setCell ⟨w.heap.size, 2, none⟩ (.int .i64 0)).setCell ⟨w.heap.size, 3, none⟩ (.int .i64 0)).setCell ⟨w.heap.size, 4, none⟩ (.string (⟨#[]⟩ : ByteArray))) := ⟨_, rfl⟩
            have HSF : Hid (RecBox WF w.heap.size default) := by rw [hWF]; exact recSet_box hx3 default
            have HBF : Hid (Below w.heap.size w WF) := by rw [hWF]; exact recSet_below hB3 (Nat.le_refl _) default (b := w.heap.size)
            have HWF := Lib.hid hWF
            clear hWF
            clear hb hx3 hB3 a0 a1 a2 a3 a4 d0 d1 d2 d3
            go_wp2
            rw [← HWF.out]
            obtain ⟨e0, e1, e2, e3, e4⟩ := HSF.out.cells
            exact bodyPost_ret (v := .tuple #[recV default, .int .i64 380]) (by simp [results, Tryd.results25, go_sem, e0, e1, e2, e3, e4]) rfl ⟨by rw [HE.out], HBF.out⟩
          · have HE : Hid (decE l = (x, 0)) := by show _ = _; rw [HE1.out, hr]; simp [hme]
            rw [hr] at HRv
            clear hr HE1 hme
            go_wp2_with fail
            refine (HRv.out _).mono ?_
            rintro e w2 ⟨rfl, hb⟩
            have hx3 := HX2.out.below hb HX2.out.lt
            have hxn3 := HXn.out.below hb HXn.out.lt
            have hB3 := HBa.out.trans (hb.mono HBa.out.size)
            have hfz : ∀ k, w2.frozen? ⟨w.heap.size, k, none⟩ = false := Lib.frozen_of_heap hx3
            obtain ⟨f0, f1, f2, f3, f4⟩ := hx3.cells
            clear a0 a1 a2 a3 a4
            obtain ⟨a0, a1, a2, a3, a4⟩ := hxn3.cells
            obtain ⟨WF, hWF⟩ : ∃ W, W = (((((w2.setCell ⟨w.heap.size, 0, none⟩ (.int .i64 x.sec)).setCell ⟨w.heap.size, 1, none⟩ (.int .i64 x.kind)).setCell ⟨w.heap.size, 2, none⟩ (.int .i64 x.a)).setCell ⟨w.heap.size, 3, none⟩ (.int .i64 x.b)).setCell ⟨w.heap.size, 4, none⟩ (.string (bs x.text))) := ⟨_, rfl⟩
            have HSF : Hid (RecBox WF w.heap.size x) := by rw [hWF]; exact recSet_box hx3 x
            have HBF : Hid (Below w.heap.size w WF) := by rw [hWF]; exact recSet_below hB3 (Nat.le_refl _) x (b := w.heap.size)
            have HWF := Lib.hid hWF
            clear hWF
            clear hb hx3 hB3 hxn3 d0 d1 d2 d3
            go_wp2
            rw [← HWF.out]
            obtain ⟨e0, e1, e2, e3, e4⟩ := HSF.out.cells
            exact bodyPost_ret (v := .tuple #[recV x, .int .i64 0]) (by simp [results, Tryd.results25, go_sem, e0, e1, e2, e3, e4]) rfl ⟨by rw [HE.out], HBF.out⟩
        · have dm : (m != s.size) = true := by simp [hme]
          have dm2 : ((m : Int) != (s.size : Int)) = true := by rw [bne_iff_ne]; omega
          have dm3 : (m == s.size) = false := by simp [hme]
          have HE : Hid (decE l = (default, 380)) := by show _ = _; rw [HE1.out, if_neg (fun h => hme h.1)]
          have hx3 := HX2.out
          have hB3 := HBa.out
          have hfz : ∀ k, (w1.alloc (.cells #[.int .i64 x.sec, .int .i64 x.kind, .int .i64 x.a, .int .i64 x.b, .string (bs x.text)] 27)).frozen? ⟨w.heap.size, k, none⟩ = false := Lib.frozen_of_heap hx3
          obtain ⟨f0, f1, f2, f3, f4⟩ := hx3.cells
          obtain ⟨WF, hWF⟩ : ∃ W, W = ((((((w1.alloc (.cells #[.int .i64 x.sec, .int .i64 x.kind, .int .i64 x.a, .int .i64 x.b, .string (bs x.text)] 27)).setCell ⟨w.heap.size, 0, none⟩ (.int .i64 0)).setCell ⟨w.heap.size, 1, none⟩ (.int .i64 0)).setCell ⟨w.heap.size, 2, none⟩ (.int .i64 0)).setCell ⟨w.heap.size, 3, none⟩ (.int .i64 0)).setCell ⟨w.heap.size, 4, none⟩ (.string (⟨#[]⟩ : ByteArray))) := ⟨_, rfl⟩
          have HSF : Hid (RecBox WF w.heap.size default) := by rw [hWF]; exact recSet_box hx3 default
          have HBF : Hid (Below w.heap.size w WF) := by rw [hWF]; exact recSet_below hB3 (Nat.le_refl _) default (b := w.heap.size)
          have HWF := Lib.hid hWF
          clear hWF
          clear hx3 hB3 HE1 hme
          go_wp2
          rw [← HWF.out]
          obtain ⟨e0, e1, e2, e3, e4⟩ := HSF.out.cells
          exact bodyPost_ret (v := .tuple #[recV default, .int .i64 380]) (by simp [results, Tryd.results25, go_sem, e0, e1, e2, e3, e4]) rfl ⟨by rw [HE.out], HBF.out⟩
end Go.Proofs.YthfenbdlolbikaaDoor
