/- The reference's Same: whether two pages are equal. -/
import Derived.Test.YteicimmdcdjagaaGreatDoorVEq
import Derived.Test.YteicimmdcdjagaaGreatDoorDMore
set_option linter.unusedVariables false
set_option linter.unusedSimpArgs false
namespace Go.Proofs.YteicimmdcdjagaaGreatDoor
open Go.RowKit Go.Shelf

set_option maxRecDepth 100000 in
set_option maxHeartbeats 4000000 in
theorem samePage_any (u u' : Int) (va vb pv pv' : Value) (s s' : List UInt8) (la lb : List VNote) (pa pb : List Bytes) (w : World) (h1 : RowsAt noteK w.heap.size w va la) (h2 : RowsAt noteK w.heap.size w vb lb) (h3 : StrsAt w.heap.size w pv pa) (h4 : StrsAt w.heap.size w pv' pb) (hT : Rounds w) :
    Calls Tryz.prog 30 #[.agg #[.int .i64 u, va, .string (bs s), pv], .agg #[.int .i64 u', vb, .string (bs s'), pv']] w fun e w' => e = .returned (.bool ((u == u') && (s == s') && (la == lb) && (pa == pb))) ∧ Below w.heap.size w w' := by
  obtain ⟨a, c, rfl, _, _⟩ := h1.shape
  obtain ⟨a', c', rfl, _, _⟩ := h2.shape
  obtain ⟨p, d, rfl, _, _⟩ := h3.shape
  obtain ⟨p', d', rfl, _, _⟩ := h4.shape
  have hL := (((((((LiveP.start hT).add (keep_rows h1)).add (keep_rows h2)).add (keep_strs h3)).add (keep_strs h4)).alloc (.cells #[.int .i64 u, .slice a la.length c, .string (bs s), .slice p pa.length d] 39)).add (keep_box (box_new w _ _))).alloc (.cells #[.int .i64 u', .slice a' lb.length c', .string (bs s'), .slice p' pb.length d'] 39)
  have hL := hL.add (P := BoxN (w.heap.size + 1) 39 #[.int .i64 u', .slice a' lb.length c', .string (bs s'), .slice p' pb.length d']) (keep_box (by have := box_new (w.alloc (.cells #[.int .i64 u, .slice a la.length c, .string (bs s), .slice p pa.length d] 39)) 39 #[.int .i64 u', .slice a' lb.length c', .string (bs s'), .slice p' pb.length d']; rw [World.size_alloc] at this; exact this))
  clear h1 h2 h3 h4 hT
  have x0 := BoxN.cell (show (BoxN w.heap.size 39 #[.int .i64 u, .slice a la.length c, .string (bs s), .slice p pa.length d]) _ from hL.get (by simp)) 0 _ rfl
  have x1 := BoxN.cell (show (BoxN w.heap.size 39 #[.int .i64 u, .slice a la.length c, .string (bs s), .slice p pa.length d]) _ from hL.get (by simp)) 1 _ rfl
  have x2 := BoxN.cell (show (BoxN w.heap.size 39 #[.int .i64 u, .slice a la.length c, .string (bs s), .slice p pa.length d]) _ from hL.get (by simp)) 2 _ rfl
  have x3 := BoxN.cell (show (BoxN w.heap.size 39 #[.int .i64 u, .slice a la.length c, .string (bs s), .slice p pa.length d]) _ from hL.get (by simp)) 3 _ rfl
  have y0 := BoxN.cell (show (BoxN (w.heap.size + 1) 39 #[.int .i64 u', .slice a' lb.length c', .string (bs s'), .slice p' pb.length d']) _ from hL.get (by simp)) 0 _ rfl
  have y1 := BoxN.cell (show (BoxN (w.heap.size + 1) 39 #[.int .i64 u', .slice a' lb.length c', .string (bs s'), .slice p' pb.length d']) _ from hL.get (by simp)) 1 _ rfl
  have y2 := BoxN.cell (show (BoxN (w.heap.size + 1) 39 #[.int .i64 u', .slice a' lb.length c', .string (bs s'), .slice p' pb.length d']) _ from hL.get (by simp)) 2 _ rfl
  have y3 := BoxN.cell (show (BoxN (w.heap.size + 1) 39 #[.int .i64 u', .slice a' lb.length c', .string (bs s'), .slice p' pb.length d']) _ from hL.get (by simp)) 3 _ rfl
  have HL := Lib.hid hL
  clear hL
  have hss := bs_eq_list s s'
  generalize hA : la.length = na at *
  generalize hB : lb.length = nb at *
  generalize hC : pa.length = ma at *
  generalize hD : pb.length = mb at *
  clear hA hB hC hD
  cases hu : u == u'
  · have HE : Hid ((false && (s == s') && (la == lb) && (pa == pb)) = false) := rfl
    clear hss
    go_enter Tryz.func30, Tryz.ntmps30
    go_wp2
    go_ret
    exact ⟨rfl, HL.out.below⟩
  cases hs : s == s'
  · rw [hs] at hss
    clear hs
    generalize bs s = X at *
    generalize bs s' = Y at *
    go_enter Tryz.func30, Tryz.ntmps30
    go_wp2
    go_ret
    exact ⟨rfl, HL.out.below⟩
  rw [hs] at hss
  clear hs
  generalize bs s = X at *
  generalize bs s' = Y at *
  go_enter Tryz.func30, Tryz.ntmps30
  go_wp2_with fail
  refine (sameNotes_any _ _ la lb _ (show (RowsN noteK (.slice a na c) la) _ from HL.out.get (by simp)) (show (RowsN noteK (.slice a' nb c') lb) _ from HL.out.get (by simp))).mono ?_
  rintro e w2 ⟨rfl, hb⟩
  have hL := HL.out.step hb
  have x3 := BoxN.cell (show (BoxN w.heap.size 39 #[.int .i64 u, .slice a na c, .string X, .slice p ma d]) _ from hL.get (by simp)) 3 _ rfl
  have y3 := BoxN.cell (show (BoxN (w.heap.size + 1) 39 #[.int .i64 u', .slice a' nb c', .string Y, .slice p' mb d']) _ from hL.get (by simp)) 3 _ rfl
  have HL2 := Lib.hid hL
  clear hL hb HL
  cases hn : la == lb
  · go_wp2
    go_ret
    exact ⟨by simp [hn], HL2.out.below⟩
  go_wp2_with fail
  refine (same_any _ _ pa pb _ (show (StrsN (.slice p ma d) pa) _ from HL2.out.get (by simp)) (show (StrsN (.slice p' mb d') pb) _ from HL2.out.get (by simp))).mono ?_
  rintro e w3 ⟨rfl, hb⟩
  have HL3 := Lib.hid (HL2.out.step hb)
  clear hb HL2
  go_wp2
  go_ret
  exact ⟨by simp [hn], HL3.out.below⟩
end Go.Proofs.YteicimmdcdjagaaGreatDoor
