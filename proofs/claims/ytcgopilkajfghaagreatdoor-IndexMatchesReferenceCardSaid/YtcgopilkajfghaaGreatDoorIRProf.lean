/- The reference's Profile. -/
import Derived.Test.YtcgopilkajfghaaGreatDoorITag
import Derived.Test.YtcgopilkajfghaaGreatDoorIBusy
set_option linter.unusedVariables false
set_option linter.unusedSimpArgs false
namespace Go.Proofs.YtcgopilkajfghaaGreatDoor
open Go.RowKit Go.Shelf

/-- The cells of counts. -/
def cntC (h : Nat → Int) : Array Value := ((List.range 2100).map fun j => Value.int .i64 (h j)).toArray
theorem cntN_get {N : Nat} {h : Nat → Int} {j : Nat} (hj : j < N) : (((List.range N).map fun j => Value.int .i64 (h j)).toArray)[j]? = some (.int .i64 (h j)) := by
  rw [List.getElem?_toArray]
  exact tree_get N hj
theorem cntN_congr {N : Nat} {h h' : Nat → Int} (e : ∀ j, j < N → h j = h' j) : ((List.range N).map fun j => Value.int .i64 (h j)).toArray = ((List.range N).map fun j => Value.int .i64 (h' j)).toArray := by
  congr 1
  apply List.ext_getElem?
  intro i
  rw [List.getElem?_map, List.getElem?_map]
  by_cases hi : i < N
  · rw [List.getElem?_range hi, Option.map_some, Option.map_some, e i hi]
  · rw [List.getElem?_eq_none (by simp; omega)]
    rfl
theorem cntN_inc {N : Nat} {h h' : Nat → Int} {k : Nat} (hk : k < N) (e : ∀ j, j < N → h' j = if j = k then h j + 1 else h j) : (((List.range N).map fun j => Value.int .i64 (h j)).toArray).setIfInBounds k (.int .i64 (h k + 1)) = ((List.range N).map fun j => Value.int .i64 (h' j)).toArray := by
  rw [cntN_congr e, List.setIfInBounds_toArray, tree_set N hk]
theorem cntC_get {h : Nat → Int} {j : Nat} (hj : j < 2100) : (cntC h)[j]? = some (.int .i64 (h j)) := cntN_get hj
theorem cntC_congr {h h' : Nat → Int} (e : ∀ j, j < 2100 → h j = h' j) : cntC h = cntC h' := cntN_congr e
theorem cntC_inc {h h' : Nat → Int} {k : Nat} (hk : k < 2100) (e : ∀ j, j < 2100 → h' j = if j = k then h j + 1 else h j) : (cntC h).setIfInBounds k (.int .i64 (h k + 1)) = cntC h' := cntN_inc hk e
theorem cntC_zero : cntC (fun _ => 0) = Tryz.zeroCells90 := by kernel_rfl
/-- What counts holds when a card is half entered. -/
def halfC (l : List ICard) (k : Nat) (b y : Int) (j : Nat) : Int := (cntY (l.take k) (j : Int) : Int) + if b ≤ (j : Int) ∧ (j : Int) < y then 1 else 0
theorem halfC_start (l : List ICard) (k : Nat) (b : Int) (j : Nat) : (cntY (l.take k) (j : Int) : Int) = halfC l k b b j := by
  unfold halfC
  rw [if_neg (by omega)]
  omega
theorem halfC_end {l : List ICard} {k : Nat} {c : ICard} (hc : l[k]? = some c) (j : Nat) : halfC l k c.beg c.fin j = (cntY (l.take (k + 1)) (j : Int) : Int) := by
  unfold halfC cntY
  rw [List.take_add_one, hc, List.countP_append]
  by_cases h : c.beg ≤ (j : Int) ∧ (j : Int) < c.fin
  · rw [if_pos h]
    simp [List.countP_cons, hasY, h.1, h.2]
  · rw [if_neg h]
    have hh : hasY (j : Int) c = false := by
      unfold hasY
      rw [Bool.and_eq_false_iff, decide_eq_false_iff_not, decide_eq_false_iff_not]
      omega
    simp [List.countP_cons, hh]
theorem halfC_next (l : List ICard) (k : Nat) (b : Int) (y : Nat) (hb : b ≤ (y : Int)) (j : Nat) : halfC l k b ((y + 1 : Nat) : Int) j = if j = y then halfC l k b (y : Int) j + 1 else halfC l k b (y : Int) j := by
  unfold halfC
  by_cases e : j = y
  · subst e
    rw [if_pos rfl, if_pos (by omega), if_neg (by omega)]
    omega
  · rw [if_neg e]
    by_cases h : b ≤ (j : Int) ∧ (j : Int) < (y : Int)
    · rw [if_pos h, if_pos (by omega)]
    · rw [if_neg h, if_neg (by omega)]
theorem halfC_bd {l : List ICard} (hl : l.length ≤ 500) (k : Nat) (b y : Int) (j : Nat) : 0 ≤ halfC l k b y j ∧ halfC l k b y j ≤ 501 := by
  unfold halfC
  have h1 : cntY (l.take k) (j : Int) ≤ (l.take k).length := List.countP_le_length
  rw [List.length_take] at h1
  split <;> omega
set_option maxRecDepth 100000 in
set_option maxHeartbeats 4000000 in
theorem rprofile_any (v : Value) (l : List ICard) (w : World) (h : RowsAt cardK w.heap.size w v l) (hok : IOk l) :
    Calls Tryz.prog 29 #[v] w fun e w' => ∃ v', e = .returned v' ∧ OwnK levK w.heap.size w' v' (levsR (fun y : Nat => (cntY l (y : Int) : Int)) 2100) ∧ Below w.heap.size w w' := by
  have HR := Lib.hid h
  have HOk := Lib.hid hok
  have HFew := Lib.hid hok.few
  obtain ⟨oa, oc, rfl, hlc, hcm⟩ := h.shape
  unfold maxLen at hcm
  obtain ⟨n, hn⟩ : ∃ n, n = l.length := ⟨_, rfl⟩
  have HN : Hid (l.length = n) := hn.symm
  have HR1 : Hid (RowsAt cardK w.heap.size w (.slice oa n oc) l) := by show RowsAt _ _ _ _ _; rw [hn]; exact HR.out
  rw [← hn] at hlc ⊢
  have hnf : n ≤ 500 := by rw [hn]; exact HFew.out
  clear h hok hn HR
  obtain ⟨V, hV⟩ : ∃ V, V = w.alloc (.cells Tryz.zeroCells90 90) := ⟨_, rfl⟩
  have HB0 : Hid (Below w.heap.size w V) := by show Below _ _ _; rw [hV]; exact (Below.refl _ _).alloc (Nat.le_refl _) _
  have HC0 : Hid (BoxN w.heap.size 90 (cntC fun j => (cntY (l.take 0) (j : Int) : Int)) V) := by
    show BoxN _ _ _ _
    rw [hV, show (fun j : Nat => (cntY (l.take 0) (j : Int) : Int)) = fun _ => 0 from rfl, cntC_zero]
    exact box_new w _ _
  have HVe := Lib.hid hV
  clear hV
  go_enter Tryz.func29, Tryz.ntmps29
  go_wp2
  rw [← HVe.out]
  go_loopw [4] (fun i wr => ∃ k : Nat, k ≤ n ∧ i = .int .i64 k ∧ Hid (Below w.heap.size w wr) ∧ Hid (BoxN w.heap.size 90 (cntC fun j => (cntY (l.take k) (j : Int) : Int)) wr)) (fun i _ => n - (intOf i).toNat)
  case atStart => exact ⟨0, Nat.zero_le _, rfl, HB0, HC0⟩
  case round =>
    obtain ⟨k, hk, rfl, HB, HC⟩ := hrel
    have k0 : 0 ≤ (k : Int) := by omega
    by_cases hlt : k < n
    · have kk : (k : Int) < (n : Int) := by omega
      obtain ⟨x, hx⟩ : ∃ x, x = l.getD k default := ⟨_, rfl⟩
      have hkl : k < l.length := by rw [HN.out]; exact hlt
      have hget : l[k]? = some x := by rw [hx, List.getD_eq_getElem?_getD, List.getElem?_eq_getElem hkl]; rfl
      have hv := validC_ok (HOk.out.valid x (List.mem_of_getElem? hget))
      obtain ⟨b, hb⟩ : ∃ b : Nat, x.beg = (b : Int) := ⟨x.beg.toNat, by omega⟩
      obtain ⟨d, hd⟩ : ∃ d : Nat, x.fin = (d : Int) := ⟨x.fin.toNat, by omega⟩
      have hbd : b < d ∧ d ≤ 2100 := by omega
      have HXc : Hid (∀ W, Below w.heap.size w W → ∃ g o, oa = some ⟨g, o, none⟩ ∧ W.cell? ⟨g, o + k * 5 + 3, none⟩ = some (.int .i64 (b : Int)) ∧ W.cell? ⟨g, o + k * 5 + 3 + 1, none⟩ = some (.int .i64 (d : Int)) ∧ W.cell? ⟨g, o + k * 5 + 4, none⟩ = some (.int .i64 (d : Int))) := fun W hW => by
        obtain ⟨g, o, h1, _, _, _, _, r3, r4⟩ := cards_at (HR1.out.later hW (Nat.le_refl _)) k x hget
        rw [hb] at r3
        rw [hd] at r4
        exact ⟨g, o, h1, r3, r4, r4⟩
      have HEn : Hid (∀ j, j < 2100 → halfC l k (b : Int) (d : Int) j = (cntY (l.take (k + 1)) (j : Int) : Int)) := fun j _ => by rw [← hb, ← hd]; exact halfC_end hget j
      have HSt : Hid (BoxN w.heap.size 90 (cntC (halfC l k (b : Int) (b : Int))) wr) := by
        have h := HC.out
        rwa [cntC_congr (fun j _ => halfC_start l k (b : Int) j)] at h
      obtain ⟨gb, go, hoa, x3, x4, x5⟩ := HXc.out wr HB.out
      subst hoa
      clear hx hkl hget hv hb hd HC
      go_wp2
      clear x3 x4 x5
      go_loopw [5] (fun i wr => ∃ y : Nat, b ≤ y ∧ y ≤ d ∧ i = .int .i64 y ∧ Hid (Below w.heap.size w wr) ∧ Hid (BoxN w.heap.size 90 (cntC (halfC l k (b : Int) (y : Int))) wr)) (fun i _ => d - (intOf i).toNat)
      case atStart => exact ⟨b, Nat.le_refl _, by omega, rfl, HB, HSt⟩
      case round =>
        obtain ⟨y, hby, hyd, rfl, HB2, HC2⟩ := hrel
        have y0 : 0 ≤ (y : Int) := by omega
        obtain ⟨g', o', hoa', x3, x4, x5⟩ := HXc.out wr HB2.out
        cases hoa'
        by_cases hy : y < d
        · have yy : (y : Int) < (d : Int) := by omega
          have y21 : (y : Int) < 2100 := by omega
          have c0 := BoxN.cell HC2.out y _ (cntC_get (show y < 2100 by omega))
          have cf := BoxN.frozen HC2.out
          have hbnd := halfC_bd HFew.out k (b : Int) (y : Int) y
          have HC3 : Hid (BoxN w.heap.size 90 (cntC (halfC l k (b : Int) ((y + 1 : Nat) : Int))) (wr.setCell ⟨w.heap.size, y, none⟩ (.int .i64 (halfC l k (b : Int) (y : Int) y + 1)))) := by
            have h := BoxN.set HC2.out y (.int .i64 (halfC l k (b : Int) (y : Int) y + 1))
            rwa [cntC_inc (show y < 2100 by omega) (fun j _ => halfC_next l k (b : Int) y (by omega) j)] at h
          have HB3 : Hid (Below w.heap.size w (wr.setCell ⟨w.heap.size, y, none⟩ (.int .i64 (halfC l k (b : Int) (y : Int) y + 1)))) := HB2.out.setCell (p := ⟨w.heap.size, y, none⟩) (Nat.le_refl _) _
          generalize halfC l k (b : Int) (y : Int) y = z at *
          have wz : IntKind.i64.wrap (z + 1) = z + 1 := IntWalk.i64_in _ (by omega)
          go_wp2
          go_roundw
          case rel => exact ⟨y + 1, by omega, by omega, by go_num, HB3, HC3⟩
          case measure => simp [intOf]; omega
        · obtain rfl : y = d := by omega
          have yy : ¬ (y : Int) < (y : Int) := by omega
          have HC3 : Hid (BoxN w.heap.size 90 (cntC fun j => (cntY (l.take (k + 1)) (j : Int) : Int)) wr) := by
            have h := HC2.out
            rwa [cntC_congr HEn.out] at h
          go_wp2
          go_roundw
          case rel => exact ⟨k + 1, by omega, by go_num, HB2, HC3⟩
          case measure => simp [intOf]; omega
    · obtain rfl : k = n := by omega
      have kk : ¬ ((k : Int) < (k : Int)) := by omega
      obtain ⟨F, hF⟩ : ∃ F : Nat → Int, F = fun y : Nat => (cntY l (y : Int) : Int) := ⟨_, rfl⟩
      have HCf : Hid (BoxN w.heap.size 90 (cntC F) wr) := by
        have h := HC.out
        rw [List.take_of_length_le (by rw [HN.out]; exact Nat.le_refl _)] at h
        rw [hF]; exact h
      have HFe := Lib.hid hF
      clear hF HC
      go_wp2
      have HF := Lib.hid (levs_len F)
      go_loopw [6, 7] (fun v i wq => ∃ y : Nat, y ≤ 2100 ∧ i = .int .i64 y ∧ (∃ a m c, v = .slice a m c) ∧ Hid (OwnK levK (w.heap.size + 1) wq v (levsR F y)) ∧ Hid (Below w.heap.size w wq) ∧ Hid (BoxN w.heap.size 90 (cntC F) wq)) (fun _ i _ => 2100 - (intOf i).toNat)
      case atStart => exact ⟨0, by omega, rfl, ⟨_, _, _, rfl⟩, Lib.hid (OwnK.nil _ _), HB, HCf⟩
      case round =>
        obtain ⟨y, hy, rfl, ⟨ta, tn, tc, rfl⟩, HO, HB2, HC2⟩ := hrel
        have y0 : 0 ≤ (y : Int) := by omega
        by_cases hlt : y < 2100
        · have yy : (y : Int) < 2100 := by omega
          have c0 := BoxN.cell HC2.out y _ (cntC_get (h := F) hlt)
          obtain ⟨z, hz⟩ : ∃ z, z = F y := ⟨_, rfl⟩
          rw [← hz] at c0
          have w1_ : IntKind.i64.wrap ((y : Int) + 1) = (y : Int) + 1 := IntWalk.i64_in _ (by omega)
          have happ : ∀ (W : World) (sa : Option Addr) (sn sc : Nat) (L : List ILev), OwnK levK (w.heap.size + 1) W (.slice sa sn sc) L → Below w.heap.size w W → BoxN w.heap.size 90 (cntC F) W →
              Hid (OwnK levK (w.heap.size + 1) (W.alloc (.cells #[.int .i64 (y : Int), .int .i64 ((y : Int) + 1), .int .i64 z] 60)) (.slice sa sn sc) L) ∧
              Hid (RowsAt levK (W.heap.size + 1) (W.alloc (.cells #[.int .i64 (y : Int), .int .i64 ((y : Int) + 1), .int .i64 z] 60)) (.slice (some ⟨W.heap.size, 0, none⟩) 1 1) [⟨y, y + 1, z⟩]) ∧
              Hid (w.heap.size + 1 ≤ (W.alloc (.cells #[.int .i64 (y : Int), .int .i64 ((y : Int) + 1), .int .i64 z] 60)).heap.size) := fun W sa sn sc L h1 h2 h3 => by
            refine ⟨h1.kept (World.grownBy_alloc _ _ none) (fun g h => by cases h), ?_, ?_⟩
            · have h := (ownK_lit levKOk W [⟨y, y + 1, z⟩] #[.int .i64 (y : Int), .int .i64 (((y + 1 : Nat)) : Int), .int .i64 z] rfl (by simp)).rows levKOk
              rw [World.size_alloc, show (((y + 1 : Nat)) : Int) = (y : Int) + 1 by omega] at h
              exact h
            · show _ ≤ _
              rw [World.size_alloc]
              have := h3.lt
              omega
          have HAp := Lib.hid happ
          clear happ
          by_cases hy0 : y = 0
          · subst hy0
            have HL2 : Hid (levsR F (0 + 1) = [⟨0, 0 + 1, z⟩]) := by show _ = _; rw [hz]; exact levs_one F
            have hn0 := HO.out.shape
            obtain ⟨sa, sc, hsh, _, _⟩ := hn0
            rw [show (levsR F 0).length = 0 from rfl] at hsh
            obtain ⟨e1, e2, e3⟩ := Value.slice.inj hsh
            subst e2
            obtain ⟨HA1, HA2, HA3⟩ := HAp.out wr ta 0 tc [] HO.out HB2.out HC2.out
            clear hsh e1 e3 hz HAp
            go_wp2_with (at_builtin; refine append_K3 levKOk rfl _ _ rfl (w.heap.size + 1) _ _ _ [] [(⟨0, 0 + 1, z⟩ : ILev)] rfl rfl HA1.out HA2.out (by simp) HA3.out ?_; intro v' w7 ho7 hg7 hr7)
            have HB7 : Hid (Below w.heap.size w w7) := (HB2.out.alloc HB2.out.size _).grown hg7 (Nat.le_trans (Nat.le_succ _) HA3.out) (fun j hj => Nat.le_trans (Nat.le_succ _) (World.ownsRow.lt HA1.out j hj).1)
            have HC7 : Hid (BoxN w.heap.size 90 (cntC F) w7) := BoxN.grown (HC2.out.alloc _) hg7 (fun e => Nat.not_succ_le_self _ (World.ownsRow.lt HA1.out _ e).1)
            rw [List.nil_append, ← HL2.out] at ho7
            obtain ⟨za, zc, hv7, _, _⟩ := ho7.shape
            subst hv7
            have HO7 := Lib.hid ho7
            clear ho7 hg7 hr7
            go_roundw
            case rel => exact ⟨0 + 1, by omega, by go_num, ⟨_, _, _, rfl⟩, HO7, HB7, HC7⟩
            case measure => simp [intOf]
          · obtain ⟨I, b, c, hI⟩ := levs_snoc F y (by omega)
            have hil := HF.out y
            rw [hI] at hil
            have hnx := levs_next hI
            have ho := HO.out
            rw [hI] at ho
            obtain ⟨g4, c4, hv4, hg1, hg2, hg3, hg4⟩ := ho.some (by simp)
            obtain ⟨e1, e2, e3⟩ := Value.slice.inj hv4
            subst e1 e3
            have e2' : tn = I.length + 1 := by rw [e2]; simp
            subst e2'
            have HO2 := Lib.hid ho
            obtain ⟨p0, p1, p2⟩ := lev_cells ho
            have pf := own_frozen ho
            have hgb := World.ownsRow.lt ho g4 rfl
            have hil2 : I.length + 1 ≤ 2100 := by simp at hil; omega
            have wl : IntKind.i64.wrap (((I.length + 1 : Nat) : Int) - 1) = (I.length : Int) := (IntWalk.i64_in _ (by omega)).trans (by omega)
            have wl2 : IntKind.i64.wrap ((I.length : Int) + 1 - 1) = (I.length : Int) := (IntWalk.i64_in _ (by omega)).trans (by omega)
            clear ho hv4 e2 hil hI HO hg1 hg2 hg3 hg4
            by_cases hcz : c = z
            · have hcb : (c == z) = true := beq_iff_eq.2 hcz
              have HL2 : Hid (levsR F (y + 1) = I ++ [⟨b, y + 1, c⟩]) := by show _ = _; rw [hnx, if_pos (by rw [hcz, hz])]
              have HO3 : Hid (OwnK levK (w.heap.size + 1) (wr.setCell ⟨g4, I.length * 3 + 1, none⟩ (.int .i64 ((y : Int) + 1))) (.slice (some ⟨g4, 0, none⟩) (I.length + 1) tc) (levsR F (y + 1))) := by
                have h := lev_end HO2.out (y + 1)
                rw [show (((y + 1 : Nat)) : Int) = (y : Int) + 1 by omega] at h
                rw [HL2.out]
                exact h
              have HB3 : Hid (Below w.heap.size w (wr.setCell ⟨g4, I.length * 3 + 1, none⟩ (.int .i64 ((y : Int) + 1)))) := HB2.out.setCell (p := ⟨g4, I.length * 3 + 1, none⟩) (show w.heap.size ≤ g4 by omega) _
              have HC3 : Hid (BoxN w.heap.size 90 (cntC F) (wr.setCell ⟨g4, I.length * 3 + 1, none⟩ (.int .i64 ((y : Int) + 1)))) := BoxN.other HC2.out (by omega)
              clear hnx hz hcz
              generalize I.length = m at *
              have m0 : 0 ≤ (m : Int) := by omega
              have m1 : (m : Int) < (m : Int) + 1 := by omega
              go_wp2
              go_roundw
              case rel => exact ⟨y + 1, by omega, by go_num, ⟨_, _, _, rfl⟩, HO3, HB3, HC3⟩
              case measure => simp [intOf]; omega
            · have hcb : (c == z) = false := beq_eq_false_iff_ne.2 hcz
              have HL2 : Hid (levsR F (y + 1) = I ++ [⟨b, y, c⟩] ++ [⟨y, y + 1, z⟩]) := by show _ = _; rw [hnx, if_neg (by rw [← hz]; exact hcz), hz]
              obtain ⟨HA1, HA2, HA3⟩ := HAp.out wr (some ⟨g4, 0, none⟩) (I.length + 1) tc (I ++ [⟨b, y, c⟩]) HO2.out HB2.out HC2.out
              clear hnx hz hcz HAp
              have m0 : 0 ≤ (I.length : Int) := by omega
              have m1 : (I.length : Int) < (I.length : Int) + 1 := by omega
              go_wp2_with (at_builtin; go_loud (refine append_K3 levKOk rfl _ _ rfl (w.heap.size + 1) _ _ _ (I ++ [(⟨b, y, c⟩ : ILev)]) [(⟨y, y + 1, z⟩ : ILev)] rfl rfl HA1.out HA2.out (by simp; omega) HA3.out ?_; intro v' w7 ho7 hg7 hr7))
              have HB7 : Hid (Below w.heap.size w w7) := (HB2.out.alloc HB2.out.size _).grown hg7 (Nat.le_trans (Nat.le_succ _) HA3.out) (fun j hj => Nat.le_trans (Nat.le_succ _) (World.ownsRow.lt HA1.out j hj).1)
              have HC7 : Hid (BoxN w.heap.size 90 (cntC F) w7) := BoxN.grown (HC2.out.alloc _) hg7 (fun e => Nat.not_succ_le_self _ (World.ownsRow.lt HA1.out _ e).1)
              rw [← HL2.out] at ho7
              obtain ⟨za, zc, hv7, _, _⟩ := ho7.shape
              subst hv7
              have HO7 := Lib.hid ho7
              clear ho7 hg7 hr7
              go_roundw
              case rel => exact ⟨y + 1, by omega, by go_num, ⟨_, _, _, rfl⟩, HO7, HB7, HC7⟩
              case measure => simp [intOf]; omega
        · obtain rfl : y = 2100 := by omega
          have yy : ¬ (((2100 : Nat) : Int) < 2100) := by omega
          have HOe : Hid (OwnK levK w.heap.size wr (.slice ta tn tc) (levsR F 2100)) := HO.out.mono (Nat.le_succ _)
          clear hlt HO
          go_wp2
          go_ret
          exact ⟨_, rfl, by rw [← HFe.out]; exact HOe.out, HB2.out⟩
end Go.Proofs.YtcgopilkajfghaaGreatDoor
