import Derived.Test.YteicimmdcdjagaaGreatDoorVIdx
set_option linter.unusedVariables false
set_option linter.unusedSimpArgs false

/- view: Query, Check. -/
set_option linter.unusedVariables false
set_option linter.unusedSimpArgs false
namespace Go.Proofs.YteicimmdcdjagaaGreatDoor
open Go.RowKit Go.Shelf

theorem queryL_succ (l : List VNote) (a b : Int) (k : Nat) (h : k < l.length) : queryL (l.take (k + 1)) a b = queryL (l.take k) a b ++ if decide (a ≤ (l.getD k default).day) && decide ((l.getD k default).day < b) then [l.getD k default] else [] := by
  rw [take_getD l default k h]
  generalize l.getD k default = x
  unfold queryL
  rw [List.filter_append]
  congr 1
  by_cases h1 : a ≤ x.day <;> by_cases h2 : x.day < b <;> simp [List.filter_cons, h1, h2]
theorem rowN_lit (W : World) (x : VNote) (B : Nat) (hB : B = W.heap.size) : RowsAt noteK (W.alloc (.cells (noteR x) 48)).heap.size (W.alloc (.cells (noteR x) 48)) (.slice (some ⟨B, 0, none⟩) 1 1) [x] := by
  subst hB
  exact (ownK_lit noteOk W [x] _ rfl (by simp)).rows noteOk
theorem queryL_length (l : List VNote) (a b : Int) : (queryL l a b).length ≤ l.length := List.length_filter_le _ _
set_option maxRecDepth 100000 in
set_option maxHeartbeats 2000000 in
theorem query_any (u : Int) (nv : Value) (l : List VNote) (s : List UInt8) (pv : Value) (a b : Int) (w : World) (h : RowsAt noteK w.heap.size w nv l) (hl : l.length ≤ 100000) (hp : ∃ a n c, pv = .slice a n c) :
    Calls Tryz.prog 19 #[pageV u nv s pv, .agg #[.int .i64 a, .int .i64 b]] w fun e w' => ∃ v, e = .returned v ∧ OwnK noteK w.heap.size w' v (queryL l a b) ∧ Below w.heap.size w w' := by
  obtain ⟨na, nc, rfl, hlc, hcm⟩ := h.shape
  obtain ⟨pa, pn, pc, rfl⟩ := hp
  unfold maxLen at hcm
  have HL := Lib.hid h
  clear h
  generalize hn : l.length = n at *
  have HN := Lib.hid hn
  clear hn
  have h1 := box_new w 39 #[.int .i64 u, .slice na n nc, .string (bs s), .slice pa pn pc]
  have h2 := box_new (w.alloc (.cells #[.int .i64 u, .slice na n nc, .string (bs s), .slice pa pn pc] 39)) 46 #[.int .i64 a, .int .i64 b]
  rw [World.size_alloc] at h2
  have HS0 : Hid (BoxN (w.heap.size + 1) 46 #[.int .i64 a, .int .i64 b] ((w.alloc (.cells #[.int .i64 u, .slice na n nc, .string (bs s), .slice pa pn pc] 39)).alloc (.cells #[.int .i64 a, .int .i64 b] 46))) := h2
  have HB0 : Hid (Below w.heap.size w ((w.alloc (.cells #[.int .i64 u, .slice na n nc, .string (bs s), .slice pa pn pc] 39)).alloc (.cells #[.int .i64 a, .int .i64 b] 46))) := ((Below.refl _ _).alloc (Nat.le_refl _) _).alloc (by simp) _
  have c1 := BoxN.cell (h1.alloc (.cells #[.int .i64 a, .int .i64 b] 46)) 1 _ rfl
  have hz0 : w.heap.size + 2 ≤ ((w.alloc (.cells #[.int .i64 u, .slice na n nc, .string (bs s), .slice pa pn pc] 39)).alloc (.cells #[.int .i64 a, .int .i64 b] 46)).heap.size := by simp
  clear h1 h2
  go_enter Tryz.func19, Tryz.ntmps19
  go_wp2
  clear c1
  generalize ((w.alloc (.cells #[.int .i64 u, .slice na n nc, .string (bs s), .slice pa pn pc] 39)).alloc (.cells #[.int .i64 a, .int .i64 b] 46)) = W0 at *
  go_loopw [5, 11] (fun v5 i wr => ∃ k : Nat, k ≤ n ∧ i = .int .i64 k ∧ (∃ ra rc, v5 = .slice ra (queryL (l.take k) a b).length rc) ∧ Hid (OwnK noteK (w.heap.size + 2) wr v5 (queryL (l.take k) a b)) ∧ Hid (Below (w.heap.size + 2) W0 wr)) (fun _ i _ => n - (intOf i).toNat)
  case atStart => exact ⟨0, Nat.zero_le _, rfl, ⟨_, _, rfl⟩, Lib.hid (OwnK.nil _ _), Lib.hid (Below.refl _ _)⟩
  case round =>
    obtain ⟨k, hk, rfl, ⟨va, vc, rfl⟩, HO, HB⟩ := hrel
    have HBw := Lib.hid (HB0.out.trans (HB.out.mono (show w.heap.size ≤ w.heap.size + 2 by omega)))
    have HS := Lib.hid (BoxN.below HS0.out HB.out (show w.heap.size + 1 < w.heap.size + 2 by omega))
    by_cases h1 : k < n
    · have ji : (k : Int) < (n : Int) := by omega
      have j0 : 0 ≤ (k : Int) := by omega
      obtain ⟨x, hx⟩ : ∃ x, x = l.getD k default := ⟨_, rfl⟩
      have hget : l[k]? = some x := by rw [hx, List.getD_eq_getElem?_getD, List.getElem?_eq_getElem (by rw [HN.out]; exact h1)]; rfl
      obtain ⟨gb, off, hae, hb, hat⟩ := notes_at (HL.out.later HBw.out (Nat.le_refl _)) k x hget
      subst hae
      obtain ⟨p0, p1, p2, p3⟩ := hat
      have hs1 := HS.out.alloc (.cells (noteR x) 48)
      have s0 := BoxN.cell hs1 0 _ rfl
      have s1 := BoxN.cell hs1 1 _ rfl
      have hbx := box_new wr 48 (noteR x)
      obtain ⟨q0, q1, q2, q3⟩ := NoteN.cells hbx
      have HQ := Lib.hid (queryL_succ l a b k (by rw [HN.out]; exact h1))
      rw [← hx] at HQ
      have hql : (queryL (l.take k) a b).length ≤ n := by have := queryL_length (l.take k) a b; rw [List.length_take] at this; omega
      have hzr : w.heap.size + 2 ≤ wr.heap.size := by have := HS.out.lt; omega
      clear hx hget hs1 hbx
      generalize hql2 : queryL (l.take k) a b = Q at *
      clear hql2
      have HO1 := Lib.hid (HO.out.kept (World.grownBy_alloc wr (.cells (noteR x) 48) none) (fun g h => by cases h))
      have HB1 := Lib.hid (HB.out.alloc hzr (.cells (noteR x) 48))
      by_cases d1 : a ≤ x.day
      · have d1' : decide (a ≤ x.day) = true := decide_eq_true d1
        by_cases d2 : x.day < b
        · have d2' : decide (x.day < b) = true := decide_eq_true d2
          have HQ1 : Hid (queryL (l.take (k + 1)) a b = Q ++ [x]) := by show _ = _; rw [HQ.out, d1', d2']; rfl
          have HO2 := Lib.hid (HO1.out.kept (World.grownBy_alloc (wr.alloc (.cells (noteR x) 48)) (.cells (noteR x) 48) none) (fun g h => by cases h))
          have HB2 := Lib.hid (HB1.out.alloc (Nat.le_trans hzr (by simp)) (.cells (noteR x) 48))
          have HRow : Hid (RowsAt noteK ((wr.alloc (.cells (noteR x) 48)).alloc (.cells (noteR x) 48)).heap.size ((wr.alloc (.cells (noteR x) 48)).alloc (.cells (noteR x) 48)) (.slice (some ⟨wr.heap.size + 1, 0, none⟩) 1 1) [x]) := rowN_lit _ x _ (by simp)
          have hzz : w.heap.size + 2 ≤ ((wr.alloc (.cells (noteR x) 48)).alloc (.cells (noteR x) 48)).heap.size := by simp; omega
          clear HQ HO1 HB1 d1 d2 HO HB HS HBw
          go_wp2_with (at_builtin; refine append_KK noteOk rfl _ _ rfl (w.heap.size + 2) _ _ _ Q [x] rfl rfl HO2.out HRow.out (by simp; omega) hzz W0 HB2.out ?_; intro v' w4 hown' hgrow hbelow; obtain ⟨a', c', hsh, _, _⟩ := hown'.shape; rw [List.length_append, List.length_singleton] at hsh; subst hsh)
          have HOf := Lib.hid hown'
          have HBf := Lib.hid hbelow
          clear hown' hgrow hbelow
          go_roundw
          case rel => exact ⟨k + 1, by omega, by go_num, ⟨_, _, by rw [HQ1.out, List.length_append, List.length_singleton]⟩, by rw [HQ1.out]; exact HOf, HBf⟩
          case measure => simp [intOf]; omega
        · have d2' : decide (x.day < b) = false := decide_eq_false d2
          have HQ1 : Hid (queryL (l.take (k + 1)) a b = Q) := by show _ = _; rw [HQ.out, d1', d2']; simp
          clear HQ d1 d2 HO HB HS HBw
          go_wp2
          go_roundw
          case rel => exact ⟨k + 1, by omega, by go_num, ⟨_, _, by rw [HQ1.out]⟩, by rw [HQ1.out]; exact HO1, HB1⟩
          case measure => simp [intOf]; omega
      · have d1' : decide (a ≤ x.day) = false := decide_eq_false d1
        have HQ1 : Hid (queryL (l.take (k + 1)) a b = Q) := by show _ = _; rw [HQ.out, d1']; simp
        clear HQ d1 HO HB HS HBw
        go_wp2
        go_roundw
        case rel => exact ⟨k + 1, by omega, by go_num, ⟨_, _, by rw [HQ1.out]⟩, by rw [HQ1.out]; exact HO1, HB1⟩
        case measure => simp [intOf]; omega
    · obtain rfl : k = n := by omega
      have ji : ¬ ((k : Int) < (k : Int)) := by omega
      have HE : Hid (queryL (l.take k) a b = queryL l a b) := by show _ = _; rw [List.take_of_length_le (by rw [HN.out]; exact Nat.le_refl _)]
      clear h1 hk HS HB
      go_wp2
      go_ret
      exact ⟨_, rfl, by rw [← HE.out]; exact HO.out.mono (show w.heap.size ≤ w.heap.size + 2 by omega), HBw.out⟩
end Go.Proofs.YteicimmdcdjagaaGreatDoor
