/- The walk of Made. -/
import Derived.Test.YtmihkbiihfhpoaaDoorJMade
namespace Go.Proofs.YtmihkbiihfhpoaaDoor
open Go.RowKit Go.Shelf

theorem quiet_same {P : Program} {f : FuncId} {args : Array Value} {w : World} {n : Nat} {v : Value}
    (h : Calls P f args (w.drewN n) fun e w' => e = .returned v ∧ w.drewN n = w') : Calls P f args (w.drewN n) fun e w'' => e = .returned v ∧ ∃ m, w'' = w.drewN m :=
  h.mono fun _ _ ⟨he, hm⟩ => ⟨he, n, hm.symm⟩
theorem FourAt.at {B : Nat} {w : World} {a : Option Addr} {c n : Nat} {f : Nat → Nat → Int} (h : FourAt B w (.slice a n c) n f) (hn : 0 < n) : ∃ b off, a = some ⟨b, off, none⟩ ∧ b < B ∧ ∀ i k, i < n → k < 4 → w.cell? ⟨b, off + i * 4 + k, none⟩ = some (.int .i64 (f i k)) := by
  obtain ⟨⟨a', c', he, _, _, h3⟩, _⟩ := h
  injection he with e1 e2 e3
  obtain ⟨b, off, ha, hb, hc⟩ := h3 hn
  exact ⟨b, off, e1.trans ha, hb, hc⟩
/-- A rule's box. -/
def RBox (W : World) (T : Nat) (nv : Value) (g : Int) : Prop := W.heap[T]? = some (.cells #[nv, .int .i64 g] 48 (0, 0))
theorem RBox.lt {W : World} {T : Nat} {nv : Value} {g : Int} (h : RBox W T nv g) : T < W.heap.size := (Array.getElem?_eq_some_iff.1 h).1
theorem RBox.c0 {W : World} {T : Nat} {nv : Value} {g : Int} (h : RBox W T nv g) : W.cell? ⟨T, 0, none⟩ = some nv := by simp [World.cell?, show W.heap[T]? = _ from h]
theorem RBox.c1 {W : World} {T : Nat} {nv : Value} {g : Int} (h : RBox W T nv g) : W.cell? ⟨T, 1, none⟩ = some (.int .i64 g) := by simp [World.cell?, show W.heap[T]? = _ from h]
theorem RBox.frozen {W : World} {T : Nat} {nv : Value} {g : Int} (h : RBox W T nv g) (o : Nat) : W.frozen? ⟨T, o, none⟩ = false := by simp [World.frozen?, show W.heap[T]? = _ from h]
theorem ThBox.frozen {W : World} {T : Nat} {s d : Int} {rv : Value} (h : ThBox W T s d rv) (o : Nat) : W.frozen? ⟨T, o, none⟩ = false := by simp [World.frozen?, show W.heap[T]? = _ from h]
theorem RBox.new (W : World) (nv : Value) (g : Int) : RBox (W.alloc (.cells #[nv, .int .i64 g] 48)) W.heap.size nv g := World.alloc_heap_new W _
theorem RBox.below {W W' : World} {B T : Nat} {nv : Value} {g : Int} (h : RBox W T nv g) (hb : Below B W W') (hT : T < B) : RBox W' T nv g := (hb.block T hT).trans h
theorem RBox.set0 {W : World} {T : Nat} {nv : Value} {g : Int} (h : RBox W T nv g) (v : Value) : RBox (W.setCell ⟨T, 0, none⟩ v) T v g := by
  have hlt := h.lt
  unfold RBox at *
  simp [World.setCell, Array.getElem?_modify, h]
theorem keep3 {wr W : World} {T b o : Nat} {s d x : Value} (hT : T < wr.heap.size) (hb : b < wr.heap.size) (k0 : wr.cell? ⟨T, 0, none⟩ = some s) (k1 : wr.cell? ⟨T, 1, none⟩ = some d) (q : wr.cell? ⟨b, o, none⟩ = some x) (hX : Below wr.heap.size wr W) :
    W.cell? ⟨T, 0, none⟩ = some s ∧ W.cell? ⟨T, 1, none⟩ = some d ∧ W.cell? ⟨b, o, none⟩ = some x ∧ Below wr.heap.size wr W :=
  ⟨(hX.cell (p := ⟨T, 0, none⟩) hT).trans k0, (hX.cell (p := ⟨T, 1, none⟩) hT).trans k1, (hX.cell (p := ⟨b, o, none⟩) hb).trans q, hX⟩
theorem ThBox.set2 {W : World} {T : Nat} {s d : Int} {rv : Value} (h : ThBox W T s d rv) (v : Value) : ThBox (W.setCell ⟨T, 2, none⟩ v) T s d v := by
  have hlt := h.lt
  unfold ThBox at *
  obtain ⟨hlt', he⟩ := Array.getElem?_eq_some_iff.1 h
  simp [World.setCell, Array.getElem?_modify, h]
theorem ThBox.set012 {W : World} {T : Nat} {s d s' d' : Int} {rv rv' : Value} (h : ThBox W T s d rv) : ThBox (((W.setCell ⟨T, 0, none⟩ (.int .i64 s')).setCell ⟨T, 1, none⟩ (.int .i64 d')).setCell ⟨T, 2, none⟩ rv') T s' d' rv' := by
  unfold ThBox at *
  simp [World.setCell, Array.getElem?_modify, h]
theorem RowR.set_below {base : Nat} {w : World} {v : Value} {cs : List (Value × JRule)} (h : RowR base w v cs) {a : Addr} (ha : a.block < base) (u : Value) : RowR base (w.setCell a u) v cs := ⟨ownsRow_setCell_below h.1 ha u, fun c hc => ownsRow_setCell_below (h.2 c hc) ha u⟩
theorem ThBox.other {W : World} {T : Nat} {s d : Int} {rv : Value} (h : ThBox W T s d rv) {a : Addr} (ha : T ≠ a.block) (u : Value) : ThBox (W.setCell a u) T s d rv := (Below.heap_setCell W a u T ha).trans h
theorem RowR.mono {base base' : Nat} {w : World} {v : Value} {cs : List (Value × JRule)} (h : RowR base w v cs) (hb : base' ≤ base) : RowR base' w v cs := by
  refine ⟨⟨h.1.1, ?_⟩, fun c hc => (h.2 c hc).mono hb⟩
  rcases h.1.2 with hn | ⟨g, cap, cur, rfl, hg, rest⟩
  · exact .inl hn
  · exact .inr ⟨g, cap, cur, rfl, Nat.le_trans hb hg, rest⟩
/-- Between two rounds of Made: the result's box, the theory's box at T, its rules. -/
def MadeI (w : World) (R T base : Nat) (s d : Int) (cs : List (Value × JRule)) (rv : Value) (W : World) : Prop :=
  RowR base W rv cs ∧ ThBox W T s d rv ∧ ThBox W R 0 0 (.slice none 0 0) ∧ Below w.heap.size w W ∧ base ≤ W.heap.size
theorem MadeI.below {w : World} {R T base : Nat} {s d : Int} {cs : List (Value × JRule)} {rv : Value} {W W' : World} (h : MadeI w R T base s d cs rv W) (hb : Below W.heap.size W W') (hw : w.heap.size ≤ base) : MadeI w R T base s d cs rv W' :=
  ⟨h.1.below hb (Nat.le_refl _), h.2.1.below hb h.2.1.lt, h.2.2.1.below hb h.2.2.1.lt, h.2.2.2.1.trans (hb.mono (Nat.le_trans hw h.2.2.2.2)), Nat.le_trans h.2.2.2.2 hb.size⟩
/-- A rule's needs are stored. -/
theorem made_pack {w wo w5 : World} {R T base B : Nat} {s d : Int} {cs : List (Value × JRule)} {rv nv rv0 : Value} {g : Int} {l : List Int} (h : MadeI w R T base s d cs rv wo) (hw : w.heap.size ≤ base) (hT : T < base) (hR : R < base) (hb : Below wo.heap.size wo w5) (hr : RBox w5 wo.heap.size rv0 g) (hnv : OwnI B w5 nv l) (hB : wo.heap.size < B) :
    w5.cell? ⟨wo.heap.size, 0, none⟩ = some rv0 ∧ w5.frozen? ⟨wo.heap.size, 0, none⟩ = false ∧ (w5.setCell ⟨wo.heap.size, 0, none⟩ nv).cell? ⟨wo.heap.size, 0, none⟩ = some nv ∧ (w5.setCell ⟨wo.heap.size, 0, none⟩ nv).cell? ⟨wo.heap.size, 1, none⟩ = some (.int .i64 g) ∧
    (w5.setCell ⟨wo.heap.size, 0, none⟩ nv).cell? ⟨T, 2, none⟩ = some rv ∧ Hid (MadeI w R T base s d cs rv (w5.setCell ⟨wo.heap.size, 0, none⟩ nv) ∧ OwnI base (w5.setCell ⟨wo.heap.size, 0, none⟩ nv) nv l) := by
  have hbs := h.2.2.2.2
  have hb6 : Below wo.heap.size wo (w5.setCell ⟨wo.heap.size, 0, none⟩ nv) := hb.setCell (Nat.le_refl _) nv
  have hr6 := hr.set0 nv
  have hM := h.below hb6 hw
  exact ⟨hr.c0, hr.frozen 0, hr6.c0, hr6.c1, hM.2.1.c2, hM, (show OwnI B _ nv l from ownsRow_setCell_below hnv hB nv).mono (by omega)⟩
/-- The theory's rules are stored. -/
theorem made_pack2 {w w6 w7 : World} {R T base : Nat} {s d : Int} {cs cs' : List (Value × JRule)} {rv rv' : Value} (h : MadeI w R T base s d cs rv w6) (hw : w.heap.size ≤ base) (hwT : w.heap.size ≤ T) (hRT : R ≠ T) (hT : T < base) (hR : R < base) (hb : Below base w6 w7) (hrow : RowR base w7 rv' cs') :
    w7.cell? ⟨T, 2, none⟩ = some rv ∧ w7.frozen? ⟨T, 2, none⟩ = false ∧ Hid (MadeI w R T base s d cs' rv' (w7.setCell ⟨T, 2, none⟩ rv')) := by
  have hT7 := h.2.1.below hb hT
  have hR7 := h.2.2.1.below hb hR
  refine ⟨hT7.c2, hT7.frozen 2, hrow.set_below hT rv', hT7.set2 rv', hR7.other (by exact hRT) rv', (h.2.2.2.1.trans (hb.mono hw)).setCell (by exact hwT) rv', ?_⟩
  have := hb.size
  have h2 := h.2.2.2.2
  have h3 := ((Below.refl 0 w7).setCell (p := ⟨T, 2, none⟩) (Nat.zero_le _) rv').size
  omega
set_option maxRecDepth 100000 in
set_option maxHeartbeats 4000000 in
theorem made_row (s0 d0 : Int) (v : Value) (n : Nat) (f : Nat → Nat → Int) (w : World) (hs1 : -9223372036854775808 ≤ s0) (hs2 : s0 ≤ 9223372036854775807) (hd1 : -9223372036854775808 ≤ d0) (hd2 : d0 ≤ 9223372036854775807) (hF : FourAt w.heap.size w v n f) :
    Calls Tryd.prog 11 #[.int .i64 s0, .int .i64 d0, v] w fun e w' => ∃ rv cs, e = .returned (thV (madeT s0 d0 n f).seen (madeT s0 d0 n f).drawn rv) ∧ RowR w.heap.size w' rv cs ∧ cs.map (·.2) = (madeT s0 d0 n f).rules ∧ Below w.heap.size w w' := by
  have HF := Lib.hid hF
  obtain ⟨⟨a, c, rfl, hnc, hcm, _⟩, _⟩ := hF
  unfold maxLen at hcm
  have hsb := madeSeen_bd s0
  have hdb := madeDrawn_bd d0
  have HS : Hid (madeSeen s0 = 1 + pickZ s0 6) := rfl
  have HD : Hid (madeDrawn d0 = 1 + pickZ d0 8) := rfl
  have hp1 := pickZ_bd s0 6 (by omega)
  have hp2 := pickZ_bd d0 8 (by omega)
  have HT : Hid ((madeT s0 d0 n f).seen = madeSeen s0 ∧ (madeT s0 d0 n f).drawn = madeDrawn d0 ∧ (madeT s0 d0 n f).rules = madeRules (madeSeen s0) (madeDrawn d0) f (min n 12)) := ⟨rfl, rfl, rfl⟩
  generalize madeT s0 d0 n f = t at *
  generalize madeSeen s0 = s at *
  generalize madeDrawn d0 = d at *
  go_enter Tryd.func11, Tryd.ntmps11
  go_wp2_with (go_at_call 37; refine (pickR_any _ _ _ (by omega) (by omega) (by omega) (by omega)).mono ?_; rintro e w1 ⟨rfl, rfl⟩)
  rw [← HS.out, ← HD.out]
  obtain ⟨m, hm⟩ : ∃ m, m = min n 12 := ⟨_, rfl⟩
  have hm1 : m ≤ n := by omega
  have hm2 : m ≤ 12 := by omega
  have hm3 : n ≤ m ∨ 12 ≤ m := by omega
  rw [← hm] at HT
  clear hm
  obtain ⟨W0, hW0⟩ : ∃ W0, W0 = (w.alloc (.cells #[.int .i64 0, .int .i64 0, .slice none 0 0] 25)).alloc (.cells #[.int .i64 s, .int .i64 d, .slice none 0 0] 25) := ⟨_, rfl⟩
  have hb0 : Below w.heap.size w W0 := by rw [hW0]; exact ((Below.refl _ _).alloc (Nat.le_refl _) _).alloc (by simp) _
  have hsz0 : W0.heap.size = w.heap.size + 2 := by rw [hW0]; simp
  have hR0 : ThBox W0 w.heap.size 0 0 (.slice none 0 0) := by rw [hW0]; exact (ThBox.new w 0 0 (.slice none 0 0)).below ((Below.refl (w.heap.size + 1) _).alloc (by simp) _) (by omega)
  have hT0 : ThBox W0 (w.heap.size + 1) s d (.slice none 0 0) := by
    rw [hW0]
    have := ThBox.new (w.alloc (.cells #[.int .i64 0, .int .i64 0, .slice none 0 0] 25)) s d (.slice none 0 0)
    rwa [World.size_alloc] at this
  rw [← hW0]
  clear hW0
  go_loopw [8] (fun i wr => ∃ (j : Nat) (rv : Value) (cs : List (Value × JRule)), j ≤ m ∧ i = .int .i64 j ∧ MadeI w w.heap.size (w.heap.size + 1) (w.heap.size + 2) s d cs rv wr ∧ Hid (cs.map (·.2) = madeRules s d f j)) (fun i _ => m - (intOf i).toNat)
  case atStart => exact ⟨0, _, [], Nat.zero_le _, rfl, ⟨RowR.nil _ _, hT0, hR0, hb0, by omega⟩, rfl⟩
  case round =>
    obtain ⟨j, rv, cs, hj, rfl, hM, HCs⟩ := hrel
    have HM := Lib.hid hM
    obtain ⟨hRow, hTh, hR, hB, hsz⟩ := hM
    obtain ⟨wo, hwo⟩ : ∃ wo : World, wo = wr := ⟨_, rfl⟩
    rw [← hwo] at hTh hR hB hsz hRow HM ⊢
    clear hwo
    have hR0 := hR
    have HTh := Lib.hid hTh
    have HRow := Lib.hid hRow
    obtain ⟨ra, rc, hrv⟩ := hRow.shape
    have k0 := hTh.c0
    have k1 := hTh.c1
    have k2 := hTh.c2
    have HB := Lib.hid hB
    subst hrv
    clear hR hTh hRow hb0 hT0
    by_cases hlt : j < m
    · obtain ⟨b, off, hae, hbl, hcells⟩ := HF.out.at (by omega)
      subst hae
      have q0 := (hB.cell (p := ⟨b, off + j * 4 + 0, none⟩) hbl).trans (hcells j 0 (by omega) (by omega))
      have q1 := (hB.cell (p := ⟨b, off + j * 4 + 1, none⟩) hbl).trans (hcells j 1 (by omega) (by omega))
      have q2 := (hB.cell (p := ⟨b, off + j * 4 + 2, none⟩) hbl).trans (hcells j 2 (by omega) (by omega))
      have q3 := (hB.cell (p := ⟨b, off + j * 4 + 3, none⟩) hbl).trans (hcells j 3 (by omega) (by omega))
      have i3 := HF.out.2 j 3 (by omega) (by omega)
      have HCells := Lib.hid hcells
      clear hcells
      have jn : j < n := by omega
      have jj : (j : Int) < (n : Int) := by omega
      have HSu := Lib.hid (madeRules_succ s d f j)
      have hpd := pickZ_bd (f j 3) d hdb.1
      have hTl : w.heap.size + 1 < wo.heap.size := by omega
      have hwrap : IntKind.i64.wrap (s + pickZ (f j 3) d) = s + pickZ (f j 3) d := IntWalk.i64_in _ (by omega)
      have hbl' : b < wo.heap.size := by omega
      go_wp2
      go_region_held3 (fun W => W.cell? ⟨w.heap.size + 1, 0, none⟩ = some (.int .i64 s) ∧ W.cell? ⟨w.heap.size + 1, 1, none⟩ = some (.int .i64 d) ∧ W.cell? ⟨b, off + j * 4 + 3, none⟩ = some (.int .i64 (f j 3)) ∧ Below wo.heap.size wo W) (first | exact keep3 hTl hbl' k0 k1 q3 (Below.refl _ _).drew | exact keep3 hTl hbl' k0 k1 q3 ((Below.refl _ _).alloc (Nat.le_refl _) _).drew)
        (first | (go_at_call 37; refine (pickR_any _ _ _ i3.1 i3.2 hdb.1 (by omega)).mono ?_; rintro e wc ⟨rfl, rfl⟩))
      all_goals
        clear hwrap
        obtain ⟨W1, hW1⟩ : ∃ W1, W1 = (wo.alloc (.cells #[.slice none 0 0, .int .i64 (s + pickZ (f j 3) d)] 48)).drew := ⟨_, rfl⟩
        have hb1 : Below wo.heap.size wo W1 := by rw [hW1]; exact ((Below.refl _ _).alloc (Nat.le_refl _) _).drew
        have hz1 : W1.heap.size = wo.heap.size + 1 := by rw [hW1]; simp
        have hr1 : RBox W1 wo.heap.size (.slice none 0 0) (s + pickZ (f j 3) d) := by rw [hW1]; exact RBox.new _ _ _
        rw [← hW1]
        clear hW1 q0 q1 q2 q3 i3
        have HG : Hid ((madeRule s d (f j)).gives = s + pickZ (f j 3) d) := rfl
        have HNd : Hid ((madeRule s d (f j)).needs = listB (madeBits (s + d) (f j) 3)) := rfl
        generalize s + pickZ (f j 3) d = g at *
        have hBw1 : Below w.heap.size w W1 := hB.trans (hb1.mono (by omega))
        have hTh1 : ThBox W1 (w.heap.size + 1) s d (.slice ra cs.length rc) := HTh.out.below hb1 hTl
        have HTh1 := Lib.hid hTh1
        have Hr1 := Lib.hid hr1
        clear hTh1 hr1 k0 k1 k2 hpd
        go_wp2
        go_loopw [10, 11] (fun bv kv wy => ∃ kk : Nat, kk ≤ 3 ∧ kv = .int .i64 kk ∧ bv = .int .i64 (madeBits (s + d) (f j) kk) ∧ Below W1.heap.size W1 wy) (fun _ kv _ => 3 - (intOf kv).toNat)
        case atStart => exact ⟨0, by omega, rfl, rfl, Below.refl _ _⟩
        case round =>
          obtain ⟨kk, hkk, rfl, rfl, hBy⟩ := hrel
          have hBwy : Below w.heap.size w wr := hBw1.trans (hBy.mono (by omega))
          have hThy := HTh1.out.below hBy (by omega)
          have k0 := hThy.c0
          have k1 := hThy.c1
          by_cases hk3 : kk < 3
          · have q := (hBwy.cell (p := ⟨b, off + j * 4 + kk, none⟩) hbl).trans (HCells.out j kk (by omega) (by omega))
            have iq := HF.out.2 j kk (by omega) (by omega)
            have hpk := pickZ_bd (f j kk) (s + d + 3) (by omega)
            have HBt : Hid (madeBits (s + d) (f j) (kk + 1) = if pickZ (f j kk) (s + d + 3) < s + d then addB (madeBits (s + d) (f j) kk) (pickZ (f j kk) (s + d + 3)) else madeBits (s + d) (f j) kk) := rfl
            have hBl := madeBits_lt (s + d) (by omega) (f j) kk
            generalize madeBits (s + d) (f j) kk = S at *
            generalize f j kk = cc at *
            have hkj : (kk : Int) < (4 : Int) := by omega
            have hk4 : kk < 4 := by omega
            have hw1 : IntKind.i64.wrap (s + d) = s + d := IntWalk.i64_in _ (by omega)
            have hw2 : IntKind.i64.wrap (s + d + 3) = s + d + 3 := IntWalk.i64_in _ (by omega)
            have HP := Lib.hid (fun W : World => pickR_any cc (s + d + 3) W iq.1 iq.2 (by omega) (by omega))
            go_wp2
            go_quiet ((go_at_call 37; exact quiet_same (HP.out _)))
            clear hw1 hw2 HP
            have Hq := Lib.hid (below_drewN hBy nq)
            by_cases hpl : pickZ cc (s + d + 3) < s + d
            · rw [if_pos hpl] at HBt
              obtain ⟨pn, hpn⟩ := Int.eq_ofNat_of_zero_le hpk.1
              rw [hpn] at HBt hpl hpk ⊢
              have hp32 : pn < 32 := by omega
              have HOr := or_bit S pn hBl hp32
              have hor := HOr.1
              have HAdd : Hid (addB S (pn : Int) = S ||| 2 ^ pn) := by show _ = _; simp [addB]
              rw [HAdd.out] at HBt
              clear HOr hpn
              generalize S ||| 2 ^ pn = S2 at *
              go_wp2
              go_roundw
              case rel => exact ⟨kk + 1, by omega, by go_num, by rw [HBt.out], Hq.out⟩
              case measure => simp [intOf]; omega
            · rw [if_neg hpl] at HBt
              go_wp2
              go_roundw
              case rel => exact ⟨kk + 1, by omega, by go_num, by rw [HBt.out], Hq.out⟩
              case measure => simp [intOf]; omega
          · obtain rfl : kk = 3 := by omega
            have hBl := madeBits_lt (s + d) (by omega) (f j) 3
            have hry := Hr1.out.below hBy (by omega)
            have Hry := Lib.hid hry
            have hlen : cs.length < 1000 := by have := congrArg List.length HCs.out; simp [madeRules] at this; omega
            generalize madeBits (s + d) (f j) 3 = S at *
            have hbo : Below wo.heap.size wo wr := hb1.trans (hBy.mono (by omega))
            have hszy := hBy.size
            clear hThy hry k0 k1
            go_wp2_with (first | (go_at_call 38; refine (listedR_any S _ hBl).mono ?_; rintro e w5 ⟨nv, rfl, hnv, hb5⟩; obtain ⟨na, nc, hnvs⟩ := hnv.shape; subst hnvs; obtain ⟨e0, ef, e2, e3, e4, HP⟩ := made_pack HM.out (by omega) (by omega) (by omega) (hbo.trans (hb5.mono hbo.size)) (Hry.out.below hb5 (by omega)) hnv (by omega)) | (at_builtin; refine append_rule1 rfl _ _ rfl (w.heap.size + 2) (.slice ra cs.length rc) cs _ (madeRule s d (f j)) g HG.out.symm rfl w5.heap.size (by simp) rfl HP.out.1.1 (by rw [HNd.out]; exact HP.out.2) hlen HP.out.1.2.2.2.2 _ (Below.refl _ _) ?_; intro v' w7 hrow7 _ hb7; obtain ⟨va, vc, hvs⟩ := hrow7.shape; subst hvs; obtain ⟨h71, h72, HP7⟩ := made_pack2 HP.out.1 (by omega) (by omega) (by omega) (by omega) (by omega) hb7 hrow7))
            simp only [List.length_append, List.length_cons, List.length_nil, Nat.zero_add] at HP7
            go_roundw
            case rel => exact ⟨j + 1, _, cs ++ [(_, madeRule s d (f j))], by omega, by go_num, HP7.out, by show _ = _; rw [HSu.out, List.map_append, HCs.out]; rfl⟩
            case measure => simp [intOf]; omega
    · obtain rfl : j = m := by omega
      have r0 := hR0.c0
      have r1 := hR0.c1
      have r2 := hR0.c2
      have f0 := hR0.frozen 0
      have f1 := hR0.frozen 1
      have f2 := hR0.frozen 2
      have HFin : Hid (∀ W, (∃ x y z, W = ((wo.setCell ⟨w.heap.size, 0, none⟩ x).setCell ⟨w.heap.size, 1, none⟩ y).setCell ⟨w.heap.size, 2, none⟩ z) → RowR w.heap.size W (.slice ra cs.length rc) cs ∧ cs.map (·.2) = t.rules ∧ Below w.heap.size w W) := by
        rintro W ⟨x, y, z, rfl⟩
        have h1 := ((HRow.out.set_below (a := ⟨w.heap.size, 0, none⟩) (by simp) x).set_below (a := ⟨w.heap.size, 1, none⟩) (by simp) y).set_below (a := ⟨w.heap.size, 2, none⟩) (by simp) z
        exact ⟨h1.mono (by omega), by rw [HCs.out, ← HT.out.2.2], ((HB.out.setCell (p := ⟨w.heap.size, 0, none⟩) (Nat.le_refl _) x).setCell (p := ⟨w.heap.size, 1, none⟩) (Nat.le_refl _) y).setCell (p := ⟨w.heap.size, 2, none⟩) (Nat.le_refl _) z⟩
      have hm4 : n ≤ j ∨ (j < n ∧ 12 ≤ j) := by omega
      clear hm3
      rcases hm4 with hm4 | ⟨hm4, hm5⟩
      · go_wp2
        obtain ⟨f1, f2, f3⟩ := HFin.out _ ⟨_, _, _, rfl⟩
        have hE := hR0.set012 (s' := s) (d' := d) (rv' := .slice ra cs.length rc)
        exact bodyPost_ret (v := thV s d (.slice ra cs.length rc)) (by simp [results, Tryd.results11, go_sem, hE.c0, hE.c1, hE.c2]) rfl ⟨_, cs, by rw [HT.out.1, HT.out.2.1], f1, f2, f3⟩
      · go_wp2
        obtain ⟨f1, f2, f3⟩ := HFin.out _ ⟨_, _, _, rfl⟩
        have hE := hR0.set012 (s' := s) (d' := d) (rv' := .slice ra cs.length rc)
        exact bodyPost_ret (v := thV s d (.slice ra cs.length rc)) (by simp [results, Tryd.results11, go_sem, hE.c0, hE.c1, hE.c2]) rfl ⟨_, cs, by rw [HT.out.1, HT.out.2.1], f1, f2, f3⟩
theorem made_any (s0 d0 : Int) (v : Value) (n : Nat) (f : Nat → Nat → Int) (w : World) (hs1 : -9223372036854775808 ≤ s0) (hs2 : s0 ≤ 9223372036854775807) (hd1 : -9223372036854775808 ≤ d0) (hd2 : d0 ≤ 9223372036854775807) (hF : FourAt w.heap.size w v n f) :
    Calls Tryd.prog 11 #[.int .i64 s0, .int .i64 d0, v] w fun e w' => ∃ rv, e = .returned (thV (madeT s0 d0 n f).seen (madeT s0 d0 n f).drawn rv) ∧ RulesAt w'.heap.size w' rv (madeT s0 d0 n f).rules ∧ Below w.heap.size w w' :=
  (made_row s0 d0 v n f w hs1 hs2 hd1 hd2 hF).mono fun _ _ ⟨rv, cs, h1, h2, h3, h4⟩ => ⟨rv, h1, by rw [← h3]; exact h2.rules, h4⟩
end Go.Proofs.YtmihkbiihfhpoaaDoor
