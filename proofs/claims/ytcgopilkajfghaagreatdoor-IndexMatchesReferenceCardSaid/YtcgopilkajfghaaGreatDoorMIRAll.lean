import Derived.Test.YtcgopilkajfghaaGreatDoorIBase
import Derived.Test.YtcgopilkajfghaaGreatDoorICodes
import Derived.Test.YtcgopilkajfghaaGreatDoorIRead
import Derived.Test.YtcgopilkajfghaaGreatDoorITag
import Derived.Test.YtcgopilkajfghaaGreatDoorMDigR
set_option linter.unusedVariables false
set_option linter.unusedSimpArgs false

section
/- The reference's Run, Rank, Kth, Root, Count. -/
set_option linter.unusedVariables false
set_option linter.unusedSimpArgs false
namespace Go.Proofs.YtcgopilkajfghaaGreatDoor
open Go.RowKit Go.Shelf

set_option maxRecDepth 100000 in
set_option maxHeartbeats 4000000 in
theorem rrun_any (v : Value) (N : Nat) (f : Nat → Nat → Int) (w : World) (hX : SixAt w.heap.size w v N f) :
    Calls Tryz.prog 6 #[v] w fun e w' => ∃ v', e = .returned v' ∧ RowsAt cardK w'.heap.size w' v' (runL f (min N 40)) ∧ Below w.heap.size w w' ∧ ∀ g, v'.ownBlock = some g → w.heap.size ≤ g ∧ g < w'.heap.size := by
  have HX := Lib.hid hX
  obtain ⟨⟨a, oc, rfl, hac, hcm, hz1⟩, hz2⟩ := hX
  unfold maxLen at hcm
  clear hz1 hz2
  go_enter Tryz.func6, Tryz.ntmps6
  go_wp2
  go_loopw [3, 4] (fun s i wr => ∃ (k : Nat) (lv : Value), k ≤ N ∧ k ≤ 40 ∧ i = .int .i64 k ∧ lv = s ∧ Hid (RowsAt cardK wr.heap.size wr lv (runL f k)) ∧ Hid (∀ g, lv.ownBlock = some g → w.heap.size ≤ g ∧ g < wr.heap.size) ∧ Hid (Below w.heap.size w wr)) (fun _ i _ => 40 - (intOf i).toNat)
  case atStart => exact ⟨0, _, Nat.zero_le _, Nat.zero_le _, rfl, rfl, Lib.hid (RowsAt.nil _ _), Lib.hid (fun g h => by cases h), Lib.hid (Below.refl _ _)⟩
  case round =>
    obtain ⟨k, lv, hkN, hk40, rfl, rfl, HR, HO, HB⟩ := hrel
    have k0 : 0 ≤ (k : Int) := by omega
    by_cases h1 : k < N
    · have k1 : (k : Int) < (N : Int) := by omega
      by_cases h2 : k < 40
      · have k2 : (k : Int) < 40 := by omega
        obtain ⟨gb, off, hae, hgb, ⟨x0, x1, x2, x3, x4, x5⟩, hall⟩ := SixAt.row (HX.out.below HB.out (Nat.le_refl _)) h1
        subst hae
        have HA := Lib.hid hall
        clear hall
        go_wp2_with fail
        refine (step_any (f k) _ HA.out).mono ?_
        rintro e w2 ⟨rfl, hb⟩
        have hb2 : Below w.heap.size w w2 := HB.out.trans (hb.mono HB.out.size)
        have hiok := runL_ok f k
        have HR2 := Lib.hid (HR.out.later hb (Nat.le_refl _))
        have HO2 : Hid (∀ g, lv.ownBlock = some g → w.heap.size ≤ g ∧ g < w2.heap.size) := fun g hg => ⟨(HO.out g hg).1, Nat.lt_of_lt_of_le (HO.out g hg).2 hb.size⟩
        have HSt : Hid (runL f (k + 1) = if dropsB (f k) then (dropL (runL f k) (cardG (f k)).id).1 else (putL (runL f k) (cardG (f k))).1) := rfl
        generalize cardG (f k) = c at *
        clear HR HO hb
        have hb9 : Below w2.heap.size w2 (w2.alloc (.cells #[.int .i64 c.id, .int .i64 c.unit, .int .i64 c.kind, .int .i64 c.beg, .int .i64 c.fin] 35)) := (Below.refl _ _).alloc (Nat.le_refl _) _
        have HC9 : Hid (CardN w2.heap.size c (w2.alloc (.cells #[.int .i64 c.id, .int .i64 c.unit, .int .i64 c.kind, .int .i64 c.beg, .int .i64 c.fin] 35))) := box_new w2 _ _
        have HB9 : Hid (Below w.heap.size w (w2.alloc (.cells #[.int .i64 c.id, .int .i64 c.unit, .int .i64 c.kind, .int .i64 c.beg, .int .i64 c.fin] 35))) := hb2.trans (hb9.mono hb2.size)
        obtain ⟨gb', off', hae', hz1, ⟨y0, y1, y2, y3, y4, y5⟩, hz2⟩ := SixAt.row (HX.out.below HB9.out (Nat.le_refl _)) h1
        cases hae'
        clear hz1 hz2
        have HR9 := Lib.hid (HR2.out.later hb9 (Nat.le_refl _))
        have HO9 : Hid (∀ g, lv.ownBlock = some g → w.heap.size ≤ g ∧ g < (w2.alloc (.cells #[.int .i64 c.id, .int .i64 c.unit, .int .i64 c.kind, .int .i64 c.beg, .int .i64 c.fin] 35)).heap.size) := fun g hg => ⟨(HO2.out g hg).1, Nat.lt_of_lt_of_le (HO2.out g hg).2 hb9.size⟩
        clear hb9 hb2 HR2 HO2
        go_wp2_with fail
        clear x0 x1 x2 x3 x4 x5 y0 y1 y2 y3 y4 y5
        generalize (w2.alloc (.cells #[.int .i64 c.id, .int .i64 c.unit, .int .i64 c.kind, .int .i64 c.beg, .int .i64 c.fin] 35)) = w9 at *
        refine (drops_any (f k) w9 HA.out).mono ?_
        rintro e w3 ⟨rfl, hb⟩
        rw [show decide (pickZ (f k 5) 4 = 0) = dropsB (f k) from rfl]
        have HC3 : Hid (CardN w2.heap.size c w3) := BoxN.below HC9.out hb (BoxN.lt HC9.out)
        have HB3 : Hid (Below w.heap.size w w3) := HB9.out.trans (hb.mono HB9.out.size)
        have HR3 := Lib.hid (HR9.out.later hb (Nat.le_refl _))
        have HO3 : Hid (∀ g, lv.ownBlock = some g → w.heap.size ≤ g ∧ g < w3.heap.size) := fun g hg => ⟨(HO9.out g hg).1, Nat.lt_of_lt_of_le (HO9.out g hg).2 hb.size⟩
        clear hb HC9 HB9 HR9 HO9
        obtain ⟨q0, q1, q2, q3, q4⟩ := CardN.cells HC3.out
        cases hd : dropsB (f k)
        · have HSt2 : Hid (runL f (k + 1) = (putL (runL f k) c).1) := by show _ = _; rw [HSt.out, hd]; rfl
          clear hd HSt
          go_wp2_with fail
          clear q0 q1 q2 q3 q4
          refine (rput_any lv (runL f k) c w3 HR3.out hiok).mono ?_
          rintro e w4 ⟨v', rfl, hr, hb, ho⟩
          have HB4 : Hid (Below w.heap.size w w4) := HB3.out.trans (hb.mono HB3.out.size)
          have HR4 := Lib.hid hr
          have HO4 : Hid (∀ g, v'.ownBlock = some g → w.heap.size ≤ g ∧ g < w4.heap.size) := fun g hg => by
            rcases ho g hg with h | h
            · exact ⟨(HO3.out g h).1, Nat.lt_of_lt_of_le (HO3.out g h).2 hb.size⟩
            · exact ⟨Nat.le_trans HB3.out.size h.1, h.2⟩
          clear hb hr ho HB3 HR3 HO3 HC3
          generalize (putL (runL f k) c).2 = q at *
          go_wp2
          go_roundw
          case rel => exact ⟨k + 1, _, by omega, by omega, by go_num, rfl, by rw [HSt2.out]; exact HR4, HO4, HB4⟩
          case measure => simp [intOf]; omega
        · have HSt2 : Hid (runL f (k + 1) = (dropL (runL f k) c.id).1) := by show _ = _; rw [HSt.out, hd]; rfl
          clear hd HSt
          go_wp2_with fail
          clear q0 q1 q2 q3 q4
          refine (rdrop_any lv (runL f k) c.id w3 HR3.out hiok).mono ?_
          rintro e w4 ⟨v', rfl, hr, hb, ho⟩
          have HB4 : Hid (Below w.heap.size w w4) := HB3.out.trans (hb.mono HB3.out.size)
          have HR4 := Lib.hid hr
          have HO4 : Hid (∀ g, v'.ownBlock = some g → w.heap.size ≤ g ∧ g < w4.heap.size) := fun g hg => by
            rcases ho g hg with h | h
            · exact ⟨(HO3.out g h).1, Nat.lt_of_lt_of_le (HO3.out g h).2 hb.size⟩
            · exact ⟨Nat.le_trans HB3.out.size h.1, h.2⟩
          clear hb hr ho HB3 HR3 HO3 HC3
          generalize (dropL (runL f k) c.id).2 = q at *
          go_wp2
          go_roundw
          case rel => exact ⟨k + 1, _, by omega, by omega, by go_num, rfl, by rw [HSt2.out]; exact HR4, HO4, HB4⟩
          case measure => simp [intOf]; omega
      · obtain rfl : k = 40 := by omega
        have hE : min N 40 = 40 := by omega
        go_wp2
        go_ret
        exact ⟨_, rfl, by rw [hE]; exact HR.out, HB.out, HO.out⟩
    · obtain rfl : k = N := by omega
      have hE : min k 40 = k := by omega
      go_wp2
      go_ret
      exact ⟨_, rfl, by rw [hE]; exact HR.out, HB.out, HO.out⟩
set_option maxRecDepth 100000 in
set_option maxHeartbeats 1000000 in
theorem rrank_any (v : Value) (l : List ICard) (id : Int) (w : World) (h : RowsAt cardK w.heap.size w v l) (hok : IOk l) :
    Calls Tryz.prog 20 #[v, .int .i64 id] w fun e w' => e = .returned (.tuple #[.int .i64 (rankE l id).1, .int .i64 (rankE l id).2]) ∧ Below w.heap.size w w' := by
  have HF := Lib.hid (rfind_any v l id w h (by have := hok.few; omega))
  cases hf : findC l id with
  | none =>
    have hi : findI l id = -1 := by
      refine findI_none fun j hj => ?_
      have := findC_none.1 hf
      rw [List.getD_eq_getElem?_getD, List.getElem?_eq_getElem hj]
      exact this _ (List.getElem_mem hj)
    have HE : Hid (rankE l id = (0, 420)) := by show _ = _; unfold rankE; rw [hf]
    rw [hi] at HF
    clear hi hf h
    go_enter Tryz.func20, Tryz.ntmps20
    go_wp2_with fail
    refine HF.out.mono ?_
    rintro e w1 ⟨rfl, hb⟩
    have HB : Hid (Below w.heap.size w w1) := by show Below _ _ _; rw [hb]; exact Below.refl _ _
    clear hb
    go_wp2
    go_ret2
    exact ⟨by rw [HE.out]; rfl, HB.out⟩
  | some c =>
    have hi := findI_place hok hf
    have HE : Hid (rankE l id = (((placeC l c : Nat) : Int), 0)) := by show _ = _; unfold rankE; rw [hf]
    rw [hi] at HF
    have hp := placeC_le l c
    have hfew := hok.few
    generalize placeC l c = pc at *
    have p0 : 0 ≤ (pc : Int) := by omega
    clear hi hf h
    go_enter Tryz.func20, Tryz.ntmps20
    go_wp2_with fail
    refine HF.out.mono ?_
    rintro e w1 ⟨rfl, hb⟩
    have HB : Hid (Below w.heap.size w w1) := by show Below _ _ _; rw [hb]; exact Below.refl _ _
    clear hb
    go_wp2
    go_ret2
    exact ⟨by rw [HE.out]; rfl, HB.out⟩
set_option maxRecDepth 100000 in
set_option maxHeartbeats 1000000 in
theorem rkth_any (v : Value) (l : List ICard) (k : Int) (w : World) (h : RowsAt cardK w.heap.size w v l) (hok : IOk l) :
    Calls Tryz.prog 22 #[v, .int .i64 k] w fun e w' => e = .returned (.tuple #[.int .i64 (kthE l k).1, .int .i64 (kthE l k).2]) ∧ w' = w := by
  have HR := Lib.hid h
  have hfew := hok.few
  obtain ⟨oa, oc, rfl, _, _⟩ := h.shape
  clear h
  have w1 : IntKind.i64.wrap ((l.length : Int) - 1) = (l.length : Int) - 1 := IntWalk.i64_in _ (by omega)
  cases hy : inC k 0 ((l.length : Int) - 1)
  · have HE : Hid (kthE l k = (0, 420)) := by show _ = _; unfold kthE; rw [hy]; rfl
    have H1 := Lib.hid (fun W => rin_eq hy W)
    clear hy
    generalize l.length = n at *
    go_enter Tryz.func22, Tryz.ntmps22
    go_wp2_with fail
    refine (H1.out _).mono ?_
    rintro e w' ⟨rfl, rfl⟩
    go_wp2
    go_ret2
    exact ⟨by rw [HE.out]; rfl, rfl⟩
  · have H1 := Lib.hid (fun W => rin_eq hy W)
    have hb : 0 ≤ k ∧ k ≤ (l.length : Int) - 1 := by unfold inC at hy; simp at hy; exact ⟨hy.1, by omega⟩
    obtain ⟨j, rfl⟩ := Int.eq_ofNat_of_zero_le hb.1
    have hjl : j < l.length := by omega
    obtain ⟨c, hc⟩ : ∃ c, c = l.getD j cardZ := ⟨_, rfl⟩
    have HE : Hid (kthE l (j : Int) = (c.id, 0)) := by show _ = _; unfold kthE; rw [hy, hc]; rfl
    have hget : l[j]? = some c := by rw [hc, List.getD_eq_getElem?_getD, List.getElem?_eq_getElem hjl]; rfl
    obtain ⟨gb, off, hae, hgb, e0, e1, e2, e3, e4⟩ := cards_at HR.out j c hget
    subst hae
    have j1 : (j : Int) < (l.length : Int) := by omega
    have j0 : 0 ≤ (j : Int) := by omega
    clear hy hget hc e1 e2 e3 e4
    generalize l.length = n at *
    go_enter Tryz.func22, Tryz.ntmps22
    go_wp2_with fail
    refine (H1.out _).mono ?_
    rintro e w' ⟨rfl, rfl⟩
    go_wp2
    go_ret2
    exact ⟨by rw [HE.out]; rfl, rfl⟩
end Go.Proofs.YtcgopilkajfghaaGreatDoor
end

section
/- The reference's Count. -/
set_option linter.unusedVariables false
set_option linter.unusedSimpArgs false
namespace Go.Proofs.YtcgopilkajfghaaGreatDoor
open Go.RowKit Go.Shelf

theorem cntY_step (l : List ICard) (y : Int) {k : Nat} {c : ICard} (hc : l[k]? = some c) : cntY (l.take (k + 1)) y = cntY (l.take k) y + if hasY y c then 1 else 0 := by
  unfold cntY
  rw [List.take_add_one, hc, List.countP_append]
  simp [List.countP_cons]
set_option maxRecDepth 100000 in
set_option maxHeartbeats 2000000 in
theorem rcount_any (v : Value) (l : List ICard) (y : Int) (w : World) (h : RowsAt cardK w.heap.size w v l) (hok : IOk l) :
    Calls Tryz.prog 24 #[v, .int .i64 y] w fun e w' => e = .returned (.int .i64 (countE l y)) ∧ w' = w := by
  have HR := Lib.hid h
  have hfew := hok.few
  obtain ⟨oa, oc, rfl, hlc, hcm⟩ := h.shape
  unfold maxLen at hcm
  obtain ⟨n, hn⟩ : ∃ n, n = l.length := ⟨_, rfl⟩
  have HN : Hid (l.length = n) := hn.symm
  rw [← hn] at hlc hfew
  have HR1 : Hid (RowsAt cardK w.heap.size w (.slice oa n oc) l) := by show RowsAt _ _ _ _ _; rw [hn]; exact HR.out
  rw [← hn]
  clear h hok hn HR
  go_enter Tryz.func24, Tryz.ntmps24
  go_wp2
  cases hy : inC y 0 2099
  · have HI := Lib.hid (fun W => rin_eq hy W)
    have HE : Hid (countE l y = 0) := by show _ = _; unfold countE; rw [hy]; rfl
    clear hy
    go_loop [5, 6] (fun c i => c = .int .i64 0 ∧ i = .int .i64 0) (fun _ i => 0)
    case atStart => exact ⟨rfl, rfl⟩
    case round =>
      obtain ⟨rfl, rfl⟩ := hrel
      by_cases hlt : 0 < n
      · have kk : (0 : Int) < (n : Int) := by omega
        go_wp2_with fail
        refine (HI.out _).mono ?_
        rintro e w' ⟨rfl, rfl⟩
        go_wp2
        go_ret
        exact ⟨by rw [HE.out]; rfl, rfl⟩
      · have kk : ¬ (0 : Int) < (n : Int) := by omega
        go_wp2
        go_ret
        exact ⟨by rw [HE.out]; rfl, rfl⟩
  · have HI := Lib.hid (fun W => rin_eq hy W)
    have HE : Hid (countE l y = ((cntY l y : Nat) : Int)) := by show _ = _; unfold countE; rw [hy]; rfl
    clear hy
    go_loop [5, 6] (fun c i => ∃ k : Nat, k ≤ n ∧ i = .int .i64 k ∧ c = .int .i64 (cntY (l.take k) y : Nat)) (fun _ i => n - (intOf i).toNat)
    case atStart => exact ⟨0, Nat.zero_le _, rfl, rfl⟩
    case round =>
      obtain ⟨k, hk, rfl, rfl⟩ := hrel
      have k0 : 0 ≤ (k : Int) := by omega
      by_cases hlt : k < n
      · have kk : (k : Int) < (n : Int) := by omega
        obtain ⟨x, hx⟩ : ∃ x, x = l.getD k default := ⟨_, rfl⟩
        have hget : l[k]? = some x := by rw [hx, List.getD_eq_getElem?_getD, List.getElem?_eq_getElem (by rw [HN.out]; exact hlt)]; rfl
        have HNx : Hid (cntY (l.take (k + 1)) y = cntY (l.take k) y + if hasY y x then 1 else 0) := cntY_step l y hget
        have hc : cntY (l.take k) y ≤ 500 := Nat.le_trans List.countP_le_length (by rw [List.length_take]; omega)
        obtain ⟨gb, off, hae, hgb, e0, e1, e2, e3, e4⟩ := cards_at HR1.out k x hget
        subst hae
        have e5 : w.cell? ⟨gb, off + k * 5 + 3 + 1, none⟩ = some (.int .i64 x.fin) := e4
        generalize cntY (l.take k) y = m at *
        have wm : IntKind.i64.wrap ((m : Int) + 1) = ((m + 1 : Nat) : Int) := IntWalk.i64_in _ (by omega)
        have HYx : Hid (hasY y x = (decide (x.beg ≤ y) && decide (y < x.fin))) := rfl
        clear hx hget hgb
        by_cases y1 : x.beg ≤ y
        · by_cases y2 : y < x.fin
          · have HS : Hid (cntY (l.take (k + 1)) y = m + 1) := by show _ = _; rw [HNx.out, HYx.out, decide_eq_true y1, decide_eq_true y2]; rfl
            go_wp2_with fail
            refine (HI.out _).mono ?_
            rintro e w' ⟨rfl, rfl⟩
            go_wp2
            go_round
            case rel => exact ⟨k + 1, by omega, by go_num, by rw [HS.out]; rfl⟩
            case measure => simp [intOf]; omega
          · have HS : Hid (cntY (l.take (k + 1)) y = m) := by show _ = _; rw [HNx.out, HYx.out, decide_eq_true y1, decide_eq_false y2]; rfl
            go_wp2_with fail
            refine (HI.out _).mono ?_
            rintro e w' ⟨rfl, rfl⟩
            go_wp2
            go_round
            case rel => exact ⟨k + 1, by omega, by go_num, by rw [HS.out]⟩
            case measure => simp [intOf]; omega
        · have HS : Hid (cntY (l.take (k + 1)) y = m) := by show _ = _; rw [HNx.out, HYx.out, decide_eq_false y1]; rfl
          go_wp2_with fail
          refine (HI.out _).mono ?_
          rintro e w' ⟨rfl, rfl⟩
          go_wp2
          go_round
          case rel => exact ⟨k + 1, by omega, by go_num, by rw [HS.out]⟩
          case measure => simp [intOf]; omega
      · obtain rfl : k = n := by omega
        have kk : ¬ ((k : Int) < (k : Int)) := by omega
        have hE : cntY (l.take k) y = cntY l y := by rw [List.take_of_length_le (by rw [HN.out]; exact Nat.le_refl _)]
        rw [hE]
        have HE2 := Lib.hid HE.out
        clear hE
        go_wp2
        go_ret
        exact ⟨by rw [HE.out]; rfl, rfl⟩
end Go.Proofs.YtcgopilkajfghaaGreatDoor
end

section
/- The reference's Root (seat of IndexMatchesReference; XMDigR made with INDEX=Z). -/
set_option linter.unusedVariables false
set_option linter.unusedSimpArgs false
namespace Go.Proofs.YtcgopilkajfghaaGreatDoor
open Go.RowKit Go.Shelf

set_option maxRecDepth 100000 in
set_option maxHeartbeats 1000000 in
theorem rroot_any (v : Value) (l : List ICard) (w : World) (h : RowsAt cardK w.heap.size w v l) (hok : IOk l) :
    Calls Tryz.prog 33 #[v] w fun e w' => e = .returned (.string (bs (rootL (codesC l)))) ∧ Below w.heap.size w w' := by
  have hfew := hok.few
  have HC := Lib.hid (rcodes_any v l w h (by omega))
  have HS : Hid (Sm (codesC l)) := ⟨by unfold codesC; rw [List.length_map]; omega, fun x hx => by
    obtain ⟨y, _, rfl⟩ := List.mem_map.1 hx
    exact Nat.le_trans (codeC_len y) (by omega)⟩
  clear h hok hfew
  go_enter Tryz.func33, Tryz.ntmps33
  go_wp2_with fail
  refine HC.out.mono ?_
  rintro e w1 ⟨cv, rfl, ho, hb⟩
  have HR := Lib.hid (ho.rows strOk).strsK
  have HB := Lib.hid hb
  clear ho hb HC
  go_wp2_with fail
  refine (refRoot_any _ (codesC l) cv w1 (Nat.le_refl _) HS.out HR.out).mono ?_
  rintro e w2 ⟨rfl, hb⟩
  have HB2 := Lib.hid (HB.out.trans (hb.mono HB.out.size))
  clear hb
  go_wp2
  go_ret
  exact ⟨rfl, HB2.out⟩
end Go.Proofs.YtcgopilkajfghaaGreatDoor
end
