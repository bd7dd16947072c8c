import Derived.Test.YtcgopilkajfghaaGreatDoorISane
import Derived.Test.YtcgopilkajfghaaGreatDoorIRun
import Derived.Test.YtcgopilkajfghaaGreatDoorMIRAll
import Derived.Test.YtcgopilkajfghaaGreatDoorIRDur
import Derived.Test.YtcgopilkajfghaaGreatDoorIRBusy
import Derived.Deep.RegionHeld3
import Derived.Deep.CutRange
set_option linter.unusedVariables false
set_option linter.unusedSimpArgs false

/- IndexMatchesReference. -/
set_option linter.unusedVariables false
set_option linter.unusedSimpArgs false
namespace Go.Proofs.YtcgopilkajfghaaGreatDoor
open Go.RowKit Go.Shelf

theorem keepM_box {F : Nat → Prop} {W : World} {g : Nat} {t : TypeId} {cs : Array Value} (h : BoxN g t cs W) (hg : ¬ F g) : ∀ W', Turn F W W' → BoxN g t cs W' := fun _ ht => h.turn ht hg
theorem putL_iok {l : List ICard} (h : IOk l) (c : ICard) : IOk (putL l c).1 := putL_ok h c
/-- The rows of a list are not the index's own, and lie here. -/
def RowFar (S : Nat → Prop) (v : Value) (W : World) : Prop := ∀ g, v.ownBlock = some g → ¬ S g ∧ g < W.heap.size
theorem RowFar.below {S : Nat → Prop} {v : Value} {W W' : World} (h : RowFar S v W) (hb : Below W.heap.size W W') : RowFar S v W' := fun g hg => ⟨(h g hg).1, Nat.lt_of_lt_of_le (h g hg).2 hb.size⟩
theorem RowFar.new {S : Nat → Prop} {v v' : Value} {W W' : World} (h : RowFar S v W) (hb : Below W.heap.size W W') (hl : ∀ k, S k → k < W.heap.size) (ho : ∀ g, v'.ownBlock = some g → v.ownBlock = some g ∨ (W.heap.size ≤ g ∧ g < W'.heap.size)) : RowFar S v' W' := fun g hg => by
  rcases ho g hg with h1 | h1
  · exact h.below hb g h1
  · exact ⟨fun hs => Nat.lt_irrefl _ (Nat.lt_of_lt_of_le (hl g hs) h1.1), h1.2⟩
theorem RowFar.turn {S S' : Nat → Prop} {v : Value} {W W' : World} (h : RowFar S v W) (ht : Turn S W W') (hs : ∀ k, S' k → S k ∨ W.heap.size ≤ k) : RowFar S' v W' := fun g hg => ⟨fun h' => by
    rcases hs g h' with h1 | h1
    · exact (h g hg).1 h1
    · exact Nat.lt_irrefl _ (Nat.lt_of_lt_of_le (h g hg).2 h1), Nat.lt_of_lt_of_le (h g hg).2 ht.size⟩
theorem rows_turn {S : Nat → Prop} {v : Value} {l : List ICard} {W W' : World} (h : RowsAt cardK W.heap.size W v l) (hf : RowFar S v W) (ht : Turn S W W') : RowsAt cardK W'.heap.size W' v l := (h.turnO ht (Nat.le_refl _) (fun g hg => (hf g hg).1)).mono ht.size
theorem LiveT.turnS {S S' : Nat → Prop} {w0 W W' : World} {Ps : List (World → Prop)} (h : LiveT S w0 Ps W) (ht : Turn S W W') (hs : ∀ k, S' k → S k ∨ W.heap.size ≤ k) (hlt : ∀ k, S' k → k < W'.heap.size) : LiveT S' w0 Ps W' := h.turn ht (fun _ hk => hk) fun k hk => ⟨hs k hk, hlt k hk⟩
theorem LiveT.stepD {F : Nat → Prop} {w0 W W1 W' : World} {Ps : List (World → Prop)} (h : LiveT F w0 Ps W) (hb : Below W1.heap.size W1 W') (e : W1 = W ∨ W1 = W.drew := by first | exact .inl rfl | exact .inr rfl) : LiveT F w0 Ps W' := by
  rcases e with rfl | rfl
  · exact h.step hb
  · exact h.step ((Below.refl _ _).drew.trans hb)
theorem IdxN.belowD {S : Nat → Prop} {X : Nat} {l : List ICard} {W W1 W' : World} (h : IdxN S X l W) (hb : Below W1.heap.size W1 W') (e : W1 = W ∨ W1 = W.drew := by first | exact .inl rfl | exact .inr rfl) : IdxN S X l W' := by
  rcases e with rfl | rfl
  · exact h.below hb
  · exact h.below ((Below.refl _ _).drew.trans hb)
theorem RowsAt.laterD {v : Value} {l : List ICard} {W W1 W' : World} (h : RowsAt cardK W.heap.size W v l) (hb : Below W1.heap.size W1 W') (e : W1 = W ∨ W1 = W.drew := by first | exact .inl rfl | exact .inr rfl) : RowsAt cardK W'.heap.size W' v l := by
  rcases e with rfl | rfl
  · exact h.later hb (Nat.le_refl _)
  · exact h.later ((Below.refl _ _).drew.trans hb) (Nat.le_refl _)
theorem RowFar.belowD {S : Nat → Prop} {v : Value} {W W1 W' : World} (h : RowFar S v W) (hb : Below W1.heap.size W1 W') (e : W1 = W ∨ W1 = W.drew := by first | exact .inl rfl | exact .inr rfl) : RowFar S v W' := by
  rcases e with rfl | rfl
  · exact h.below hb
  · exact h.below ((Below.refl _ _).drew.trans hb)
set_option maxRecDepth 100000 in
set_option maxHeartbeats 32000000 in
theorem lawM (v : Value) (N : Nat) (f : Nat → Nat → Int) (rv : Value) (lr : List ICard) (dz sf st yz uz kz : Int) (w : World) (hX : SixAt w.heap.size w v N f) (hR : RowsAt cardK w.heap.size w rv lr) (hRi : ∀ c ∈ lr, inI c.id) (hdz : inI dz) (hsf : inI sf) (hst : inI st) (hyz : inI yz) (huz : inI uz) (hkz : inI kz) (hT : Rounds w) :
    Calls Tryz.prog 3 #[v, rv, .int .i64 dz, .agg #[.int .i64 sf, .int .i64 st], .int .i64 yz, .int .i64 uz, .int .i64 kz] w fun e w' => e = .returned (.bool true) ∧ Below w.heap.size w w' := by
  have hL := ((LiveP.start hT).alloc (.cells #[.int .i64 sf, .int .i64 st] 25)).add (keep_box (box_new w _ _))
  have HX := Lib.hid hX
  have HRw := Lib.hid hR
  have HRi := Lib.hid hRi
  obtain ⟨oa, oc, rfl, hac, hcm⟩ := hR.shape
  unfold maxLen at hcm
  obtain ⟨n, hn⟩ : ∃ n, n = lr.length := ⟨_, rfl⟩
  have HN : Hid (lr.length = n) := hn.symm
  have HRw : Hid (RowsAt cardK w.heap.size w (.slice oa n oc) lr) := by show RowsAt _ _ _ _ _; rw [hn]; exact HRw.out
  rw [← hn] at hac ⊢
  have HDz := Lib.hid hdz
  have HPf := Lib.hid (fun W => ipick_any sf 2100 W hsf.1 hsf.2 (by omega) (by omega))
  have HPt := Lib.hid (fun W => ipick_any st 300 W hst.1 hst.2 (by omega) (by omega))
  have HPu := Lib.hid (fun W => ipick_any uz 4 W huz.1 huz.2 (by omega) (by omega))
  have HPk := Lib.hid (fun W => ipick_any kz 25 W hkz.1 hkz.2 (by omega) (by omega))
  have HPy := Lib.hid (fun W => ipick_any yz 2100 W hyz.1 hyz.2 (by omega) (by omega))
  have hnf := pickZ_bd sf 2100 (by omega)
  have hnt := pickZ_bd st 300 (by omega)
  have hkb := pickZ_bd kz 25 (by omega)
  have HKi : Hid (inI kz ∧ inI (pickZ kz 25)) := ⟨hkz, by unfold inI; omega⟩
  generalize pickZ sf 2100 = nf at *
  generalize pickZ st 300 = np at *
  generalize pickZ uz 4 = pu at *
  generalize pickZ kz 25 = pk at *
  generalize pickZ yz 2100 = py at *
  have w1_ : IntKind.i64.wrap (nf + 1) = nf + 1 := IntWalk.i64_in _ (by omega)
  obtain ⟨nt, hto⟩ : ∃ te, te = nf + 1 + np := ⟨_, rfl⟩
  have w2_ : IntKind.i64.wrap (nf + 1 + np) = nt := by rw [hto]; exact IntWalk.i64_in _ (by omega)
  have HW := Lib.hid (⟨w1_, w2_⟩ : _ ∧ _)
  have HT0 := Lib.hid hT
  have HL0 := Lib.hid hL
  have HZ0 : Hid (w.heap.size < (w.alloc (.cells #[.int .i64 sf, .int .i64 st] 25)).heap.size) := by show _ < _; rw [World.size_alloc]; omega
  clear hL hX hR hRi hdz hsf hst hyz huz hkz hT hnf hnt hkb w1_ w2_ hto hn
  go_enter Tryz.func3, Tryz.ntmps3
  go_wp2_with fail
  refine (isane_any _ HL0.out.rounds).mono ?_
  rintro e w1 ⟨rfl, hb⟩
  have HZ1 := Lib.hid hb.size
  have HL1 := Lib.hid (HL0.out.step hb)
  clear hb HL0
  go_wp2_with fail
  refine (run_any _ N f _ ((HX.out.below HL1.out.below (Nat.le_refl _)).mono HL1.out.below.size)).mono ?_
  rintro e w2 ⟨S0, X, rfl, hi, hb, hS0⟩
  have HS0 := Lib.hid hS0
  have HS0l := Lib.hid hi.lt
  have HZ2 := Lib.hid hb.size
  have HL2 := Lib.hid ((HL1.out.step hb).add (keep_idx hi))
  clear hb hi hS0 HL1
  go_wp2_with fail
  refine (rrun_any v N f _ ((HX.out.below HL2.out.below (Nat.le_refl _)).mono HL2.out.below.size)).mono ?_
  rintro e w3 ⟨lv0, rfl, hr, hb, ho⟩
  have HOk0 := Lib.hid (runL_ok f (min N 40))
  have HI2 : Hid (IdxN S0 X (runL f (min N 40)) w2) := (show (IdxN S0 X (runL f (min N 40))) _ from HL2.out.get (by simp))
  generalize runL f (min N 40) = l0 at *
  have HR3 := Lib.hid hr
  have HI3 := Lib.hid (HI2.out.below hb)
  have HF3 : Hid (RowFar S0 lv0 w3) := fun g hg => ⟨fun hs => Nat.lt_irrefl _ (Nat.lt_of_lt_of_le (HS0l.out g hs) (ho g hg).1), (ho g hg).2⟩
  have HLT3 : Hid (LiveT S0 w [BoxN w.heap.size 25 #[.int .i64 sf, .int .i64 st]] w3) := by
    have h := HL2.out.step hb
    have a1 := HZ0.out; have a2 := HZ1.out
    refine ⟨h.below, HT0.out, fun k hk => ⟨by have := HS0.out k hk; omega, HI3.out.lt k hk⟩, fun P hP => ?_⟩
    simp only [List.mem_cons, List.not_mem_nil, or_false] at hP
    subst hP
    refine keepM_box (show (BoxN w.heap.size 25 #[.int .i64 sf, .int .i64 st]) _ from h.get (by simp)) ?_
    intro hk
    have := HS0.out _ hk
    omega
  clear hr hb ho HL2 HI2 HS0 HS0l HZ0 HZ1 HZ2
  go_wp2
  go_loopw [18, 19] (fun s i wr => ∃ (k : Nat) (S : Nat → Prop) (l : List ICard) (lv : Value), k ≤ n ∧ k ≤ 6 ∧ i = .int .i64 k ∧ lv = s ∧ Hid (LiveT S w [BoxN w.heap.size 25 #[.int .i64 sf, .int .i64 st]] wr) ∧ Hid (IdxN S X l wr) ∧ Hid (RowsAt cardK wr.heap.size wr lv l) ∧ Hid (RowFar S lv wr) ∧ Hid (IOk l)) (fun _ i _ => 6 - (intOf i).toNat)
  case atStart => exact ⟨0, S0, l0, lv0, Nat.zero_le _, Nat.zero_le _, rfl, rfl, HLT3, HI3, HR3, HF3, HOk0⟩
  case round =>
    obtain ⟨k, S, l, lv, hkN, hk6, rfl, rfl, HLT, HI, HR, HF, HOk⟩ := hrel
    clear HLT3 HI3 HR3 HF3 HOk0
    have k0 : 0 ≤ (k : Int) := by omega
    go_upto_region 7 with fail
    go_cut [57] from 50 to 90 (fun s wx => s = .bool (decide (k < n) && decide (k < 6)) ∧ wx = wr)
    case first =>
      by_cases h1 : k < n
      · have k1 : (k : Int) < (n : Int) := by omega
        by_cases h2 : k < 6
        · have k2 : (k : Int) < 6 := by omega
          go_wp2_with fail
          go_meet
          exact ⟨by rw [decide_eq_true (show k < n by omega), decide_eq_true (show k < 6 by omega)]; rfl, rfl⟩
        · have k2 : ¬ (k : Int) < 6 := by omega
          go_wp2_with fail
          go_meet
          exact ⟨by rw [decide_eq_true (show k < n by omega), decide_eq_false (show ¬ k < 6 by omega)]; rfl, rfl⟩
      · have k1 : ¬ (k : Int) < (n : Int) := by omega
        go_wp2_with fail
        go_meet
        exact ⟨by rw [decide_eq_false (show ¬ k < n by omega)]; rfl, rfl⟩
    case rest =>
      obtain ⟨rfl, hw⟩ := hcut
      subst hw
      cases hbb : (decide (k < n) && decide (k < 6))
      rotate_left
      · obtain ⟨h1, h2⟩ : k < n ∧ k < 6 := by simpa using hbb
        clear hbb
        have k1 : (k : Int) < (n : Int) := by omega
        obtain ⟨c, hc⟩ : ∃ c, c = lr.getD k default := ⟨_, rfl⟩
        have hget : lr[k]? = some c := by rw [hc, List.getD_eq_getElem?_getD, List.getElem?_eq_getElem (by rw [HN.out]; exact h1)]; rfl
        have HCi : Hid (inI c.id) := HRi.out c (List.mem_of_getElem? hget)
        obtain ⟨gb, off, hae, hgb, _⟩ := cards_at HRw.out k c hget
        subst hae
        have HXc : Hid (∀ W, Below w.heap.size w W → W.cell? ⟨gb, off + k * 5, none⟩ = some (.int .i64 c.id) ∧ W.cell? ⟨gb, off + k * 5 + 1, none⟩ = some (.int .i64 c.unit) ∧ W.cell? ⟨gb, off + k * 5 + 2, none⟩ = some (.int .i64 c.kind) ∧ W.cell? ⟨gb, off + k * 5 + 3, none⟩ = some (.int .i64 c.beg) ∧ W.cell? ⟨gb, off + k * 5 + 4, none⟩ = some (.int .i64 c.fin)) := fun W hW => by
          obtain ⟨g, o, h1, _, r0, r1, r2, r3, r4⟩ := cards_at (HRw.out.later hW (Nat.le_refl _)) k c hget
          cases h1
          exact ⟨r0, r1, r2, r3, r4⟩
        obtain ⟨x0, x1, x2, x3, x4⟩ := HXc.out wc HLT.out.below
        obtain ⟨q, hq⟩ : ∃ q, q = (putL l c).2 := ⟨_, rfl⟩
        obtain ⟨l2, hl2⟩ : ∃ l2, l2 = (putL l c).1 := ⟨_, rfl⟩
        have HOk2 : Hid (IOk l2) := by show IOk _; rw [hl2]; exact putL_ok HOk.out c
        have HPu2 : Hid (∀ W, IdxN S X l W → Calls Tryz.prog 10 #[.pointer (some ⟨X, 0, none⟩), .agg #[.int .i64 c.id, .int .i64 c.unit, .int .i64 c.kind, .int .i64 c.beg, .int .i64 c.fin]] W fun e w' => e = .returned (.int .i64 q) ∧ ∃ S', IdxN S' X l2 w' ∧ Turn S W w' ∧ ∀ k, S' k → S k ∨ W.heap.size ≤ k) := fun W h => by
          have h1 := put_any c W h HCi.out
          rw [← hq, ← hl2] at h1
          exact h1
        have HRp : Hid (Calls Tryz.prog 7 #[lv, .agg #[.int .i64 c.id, .int .i64 c.unit, .int .i64 c.kind, .int .i64 c.beg, .int .i64 c.fin]] wc fun e w' => ∃ v', e = .returned (.tuple #[v', .int .i64 q]) ∧ RowsAt cardK w'.heap.size w' v' l2 ∧ Below wc.heap.size wc w' ∧ ∀ g, v'.ownBlock = some g → lv.ownBlock = some g ∨ (wc.heap.size ≤ g ∧ g < w'.heap.size)) := by
          have h1 := rput_any lv l c wc HR.out HOk.out
          rw [← hq, ← hl2] at h1
          exact h1
        obtain ⟨vc, hvc⟩ : ∃ b, b = validC c := ⟨_, rfl⟩
        have HVa : Hid (∀ W, Calls Tryz.prog 8 #[.agg #[.int .i64 c.id, .int .i64 c.unit, .int .i64 c.kind, .int .i64 c.beg, .int .i64 c.fin]] W fun e w' => e = .returned (.bool vc) ∧ Below W.heap.size W w') := fun W => by rw [hvc]; exact valid_any c W
        have HVr : Hid (∀ W, Calls Tryz.prog 9 #[.agg #[.int .i64 c.id, .int .i64 c.unit, .int .i64 c.kind, .int .i64 c.beg, .int .i64 c.fin]] W fun e w' => e = .returned (.bool vc) ∧ Below W.heap.size W w') := fun W => by rw [hvc]; exact rvalid_any c W
        have hvv : (vc != vc) = false := by simp
        have hqq : (q != q) = false := by simp
        clear hc hget hq hl2 hvc
        go_wp2_with fail
        clear x0 x1 x2 x3 x4
        refine HRp.out.mono ?_
        rintro e w4 ⟨v', rfl, hr, hb, ho⟩
        have HLT4 := Lib.hid (HLT.out.step hb)
        have HI4 := Lib.hid (HI.out.below hb)
        have HR4 := Lib.hid hr
        have HF4 : Hid (RowFar S v' w4) := HF.out.new hb HI.out.lt ho
        obtain ⟨sa, sc, hsh, _, _⟩ := hr.shape
        subst hsh
        have HRe : Hid (l2.length = l2.length) := rfl
        generalize hl2n : l2.length = n2 at *
        have HN2 := Lib.hid hl2n
        clear hl2n HRe
        clear hr hb ho HLT HI HR HF HRp
        obtain ⟨x0, x1, x2, x3, x4⟩ := HXc.out w4 HLT4.out.below
        go_wp2
        go_cut [89] from 61 to 90 (fun s wx => s = .bool false ∧ ∃ S' : Nat → Prop, Hid (LiveT S' w [BoxN w.heap.size 25 #[.int .i64 sf, .int .i64 st]] wx) ∧ Hid (IdxN S' X l2 wx) ∧ Hid (RowsAt cardK wx.heap.size wx (.slice sa n2 sc) l2) ∧ Hid (RowFar S' (.slice sa n2 sc) wx))
        case first =>
          go_region_held3 (fun W => W.cell? ⟨gb, off + k * 5, none⟩ = some (.int .i64 c.id) ∧ W.cell? ⟨gb, off + k * 5 + 1, none⟩ = some (.int .i64 c.unit) ∧ W.cell? ⟨gb, off + k * 5 + 2, none⟩ = some (.int .i64 c.kind) ∧ W.cell? ⟨gb, off + k * 5 + 3, none⟩ = some (.int .i64 c.beg) ∧ W.cell? ⟨gb, off + k * 5 + 4, none⟩ = some (.int .i64 c.fin)) (first | exact ⟨x0, x1, x2, x3, x4⟩) (first | (go_at_call 8; refine (HVa.out _).mono ?_; rintro e w7 ⟨rfl, hb⟩; replace HLT4 := Lib.hid (HLT4.out.stepD hb); replace HI4 := Lib.hid (HI4.out.belowD hb); replace HR4 := Lib.hid (HR4.out.laterD hb); replace HF4 := Lib.hid (HF4.out.belowD hb); clear hb; clear x0 x1 x2 x3 x4; obtain ⟨x0, x1, x2, x3, x4⟩ := HXc.out w7 HLT4.out.below) | (go_at_call 9; refine (HVr.out _).mono ?_; rintro e w7 ⟨rfl, hb⟩; replace HLT4 := Lib.hid (HLT4.out.stepD hb); replace HI4 := Lib.hid (HI4.out.belowD hb); replace HR4 := Lib.hid (HR4.out.laterD hb); replace HF4 := Lib.hid (HF4.out.belowD hb); clear hb; clear x0 x1 x2 x3 x4; obtain ⟨x0, x1, x2, x3, x4⟩ := HXc.out w7 HLT4.out.below) | (go_at_call 10; refine (HPu2.out _ HI4.out).mono ?_; rintro e w7 ⟨rfl, S', hi, ht, hs⟩; have HLT5 := Lib.hid (HLT4.out.turnS ht hs hi.lt); have HR5 := Lib.hid (rows_turn HR4.out HF4.out ht); have HF5 := Lib.hid (HF4.out.turn ht hs); have HI5 := Lib.hid hi; clear hi ht hs; clear x0 x1 x2 x3 x4; obtain ⟨x0, x1, x2, x3, x4⟩ := HXc.out w7 HLT5.out.below))
          all_goals
            (go_wp2_with fail; go_meet; exact ⟨rfl, S', HLT5, HI5, HR5, HF5⟩)
        case rest =>
          obtain ⟨rfl, S', HLT5, HI5, HR5, HF5⟩ := hcut
          clear HLT4 HI4 HR4 HF4 x0 x1 x2 x3 x4
          go_wp2
          go_roundw
          case rel => exact ⟨k + 1, S', l2, _, by omega, by omega, by go_num, rfl, HLT5, HI5, HR5, HF5, HOk2⟩
          case measure => simp [intOf]; omega
      · clear hbb
        obtain ⟨q, hq⟩ : ∃ q, q = (dropL l dz).2 := ⟨_, rfl⟩
        obtain ⟨l2, hl2⟩ : ∃ l2, l2 = (dropL l dz).1 := ⟨_, rfl⟩
        have HOk2 : Hid (IOk l2) := by show IOk _; rw [hl2]; exact dropL_ok HOk.out dz
        have HDr : Hid (∀ W, IdxN S X l W → Calls Tryz.prog 12 #[.pointer (some ⟨X, 0, none⟩), .int .i64 dz] W fun e w' => e = .returned (.int .i64 q) ∧ ∃ S', IdxN S' X l2 w' ∧ Turn S W w' ∧ ∀ k, S' k → S k ∨ W.heap.size ≤ k) := fun W h => by
          have h1 := drop_any dz W h HDz.out
          rw [← hq, ← hl2] at h1
          exact h1
        have HRd : Hid (Calls Tryz.prog 11 #[lv, .int .i64 dz] wc fun e w' => ∃ v', e = .returned (.tuple #[v', .int .i64 q]) ∧ RowsAt cardK w'.heap.size w' v' l2 ∧ Below wc.heap.size wc w' ∧ ∀ g, v'.ownBlock = some g → lv.ownBlock = some g ∨ (wc.heap.size ≤ g ∧ g < w'.heap.size)) := by
          have h1 := rdrop_any lv l dz wc HR.out HOk.out
          rw [← hq, ← hl2] at h1
          exact h1
        have hqq : (q != q) = false := by simp
        clear hq hl2
        go_wp2_with fail
        refine HRd.out.mono ?_
        rintro e w4 ⟨v', rfl, hr, hb, ho⟩
        have HLT4 := Lib.hid (HLT.out.step hb)
        have HI4 := Lib.hid (HI.out.below hb)
        have HR4 := Lib.hid hr
        have HF4 : Hid (RowFar S v' w4) := HF.out.new hb HI.out.lt ho
        clear hr hb ho HLT HI HR HF HRd
        go_wp2_with fail
        refine (HDr.out _ HI4.out).mono ?_
        rintro e w5 ⟨rfl, S', hi, ht, hs⟩
        have HLa := Lib.hid (((HLT4.out.turnS ht hs hi.lt).live.add (keep_idx hi)).add (keep_rows (rows_turn HR4.out HF4.out ht)))
        clear hi ht hs HLT4 HI4 HR4 HF4 HDr HOk
        have hbg := (show (BoxN w.heap.size 25 #[.int .i64 sf, .int .i64 st]) _ from HLa.out.get (by simp))
        have c0 := BoxN.cell hbg 0 _ rfl
        clear hbg
        go_wp2_with fail
        clear c0
        refine (HPf.out _).mono ?_
        rintro e w' ⟨rfl, rfl⟩
        obtain ⟨V, hV⟩ : ∃ V, V = w5.alloc (.cells #[.int .i64 nf, .int .i64 0] 25) := ⟨_, rfl⟩
        have hb7 : Below w5.heap.size w5 V := by rw [hV]; exact (Below.refl _ _).alloc (Nat.le_refl _) _
        have hx7 : BoxN w5.heap.size 25 #[.int .i64 nf, .int .i64 0] V := by rw [hV]; exact box_new w5 _ _
        have HLb := Lib.hid ((HLa.out.step hb7).add (keep_box hx7))
        have HVe := Lib.hid hV; have HBs := Lib.hid hb7
        clear hb7 hx7 hV
        obtain ⟨w1_, w2_⟩ := HW.out
        go_wp2
        rw [← HVe.out]
        have HQ : Hid (∀ W, V.grownBy W none → W.cell? ⟨w5.heap.size, 0, none⟩ = some (.int .i64 nf) ∧ W.cell? ⟨w5.heap.size, 1, none⟩ = some (.int .i64 0) ∧ W.cell? ⟨w.heap.size, 1, none⟩ = some (.int .i64 st)) := fun W hW => by
          have hL := HLb.out.step (grown_below hW)
          exact ⟨BoxN.cell (show (BoxN w5.heap.size 25 #[.int .i64 nf, .int .i64 0]) _ from hL.get (by simp)) 0 _ rfl, BoxN.cell (show (BoxN w5.heap.size 25 #[.int .i64 nf, .int .i64 0]) _ from hL.get (by simp)) 1 _ rfl, BoxN.cell (show (BoxN w.heap.size 25 #[.int .i64 sf, .int .i64 st]) _ from hL.get (by simp)) 1 _ rfl⟩
        refine wp_region_calm (tagPl [5] [(5, .val (.int .i64 np))] 8) (by kernel_rfl) (by kernel_rfl) (by kernel_rfl) tag_c0 tag_hst ?_
        iterate 2 (refine calm_quiet (v := ?_) (by rfl) (by rfl) (fun W hW hD => ?_) ?_; rotate_left; (· (obtain ⟨y0, y1, y2⟩ := HQ.out W hW; clear hD hW; go_simp; try with_reducible rfl)); simp only [Act.put, List.setIfInBounds_toArray, List.set_cons_zero, List.set_cons_succ, Nat.reduceAdd, Nat.zero_add])
        iterate 1 (refine calm_quiet (v := ?_) (by rfl) (by rfl) (fun W hW hD => ?_) ?_; rotate_left; (· (clear hD hW; go_simp; try with_reducible rfl)); simp only [Act.put, List.setIfInBounds_toArray, List.set_cons_zero, List.set_cons_succ, Nat.reduceAdd, Nat.zero_add])
        iterate 2 (refine calm_quiet (v := ?_) (by rfl) (by rfl) (fun W hW hD => ?_) ?_; rotate_left; (· (obtain ⟨y0, y1, y2⟩ := HQ.out W hW; clear hD hW; go_simp; try with_reducible rfl)); simp only [Act.put, List.setIfInBounds_toArray, List.set_cons_zero, List.set_cons_succ, Nat.reduceAdd, Nat.zero_add])
        refine calm_fixed (.int .i64 np) ⟨(default : World), rfl⟩ (fun v W h => h) rfl (by rfl) (by rfl) (fun W hW hD Kc hK => ?_) ?_
        · refine wp_of_call (f := 13) ?_ ((HPt.out W).mono ?_)
          · clear hD hW hK
            go_simp
          · rintro e w5 ⟨rfl, rfl⟩
            exact ⟨_, rfl, hK _ _ (made_plain rfl (Below.refl _ _) rfl)⟩
        simp only [Act.put, List.setIfInBounds_toArray, List.set_cons_zero, List.set_cons_succ, Nat.reduceAdd, Nat.zero_add]
        iterate 2 (refine calm_quiet (v := ?_) (by rfl) (by rfl) (fun W hW hD => ?_) ?_; rotate_left; (· (clear hD hW; go_simp; try with_reducible rfl)); simp only [Act.put, List.setIfInBounds_toArray, List.set_cons_zero, List.set_cons_succ, Nat.reduceAdd, Nat.zero_add])
        refine calm_tail (by rfl) fun W hW hF => ?_
        have hc : BoxN w5.heap.size 25 #[.int .i64 nf, .int .i64 0] W := BoxN.grown (show (BoxN w5.heap.size 25 #[.int .i64 nf, .int .i64 0]) _ from HLb.out.get (by simp)) hW (by simp)
        have z0 := BoxN.cell hc 1 _ rfl
        have zf := BoxN.frozen hc
        obtain ⟨V3, hV3⟩ : ∃ W8, W8 = W.setCell ⟨w5.heap.size, 1, none⟩ (.int .i64 nt) := ⟨_, rfl⟩
        have hb8 : Below w5.heap.size w5 V3 := by rw [hV3]; exact (HBs.out.trans ((grown_below hW).mono HBs.out.size)).setCell (p := ⟨w5.heap.size, 1, none⟩) (Nat.le_refl _) _
        have hx8 : BoxN w5.heap.size 25 #[.int .i64 nf, .int .i64 nt] V3 := by rw [hV3]; exact hc.set 1 _
        have HLc := Lib.hid ((HLa.out.step hb8).add (keep_box hx8))
        have HWe := Lib.hid hV3
        have hgb := (show (BoxN w.heap.size 25 #[.int .i64 sf, .int .i64 st]) _ from HLc.out.get (by simp))
        have hgn := (show (BoxN w5.heap.size 25 #[.int .i64 nf, .int .i64 nt]) _ from HLc.out.get (by simp))
        have g0 := BoxN.cell hgb 0 _ rfl
        have n0 := BoxN.cell hgn 0 _ rfl
        have g1 := BoxN.cell hgb 1 _ rfl
        have n1 := BoxN.cell hgn 1 _ rfl
        rw [hV3] at g0 g1 n0 n1
        obtain ⟨V4, hV4⟩ : ∃ V4, V4 = V3.alloc (.cells #[.int .i64 sf, .int .i64 st, .int .i64 nf, .int .i64 nt] 25) := ⟨_, rfl⟩
        have hb9 : Below V3.heap.size V3 V4 := by rw [hV4]; exact (Below.refl _ _).alloc (Nat.le_refl _) _
        have hx9 : BoxN V3.heap.size 25 #[.int .i64 sf, .int .i64 st, .int .i64 nf, .int .i64 nt] V4 := by rw [hV4]; exact box_new V3 _ _
        have HLd := Lib.hid ((HLc.out.step hb9).add (keep_box hx9))
        have hsz : V3.heap.size = W.heap.size := by rw [HWe.out, World.size_setCell]
        rw [hsz] at HLd
        have HW4 := Lib.hid hV4
        clear hF hW hc HLb HLa HBs HVe hb8 hx8 hV3 HQ hgb hgn hb9 hx9 hV4 HLc hsz
        go_wp2
        clear z0 zf w1_ w2_ g0 g1 n0 n1
        rw [← HWe.out, ← HW4.out]
        clear HWe HW4
        generalize W.heap.size = gl at *
        have HLe : Hid (LiveP w [BoxN gl 25 #[.int .i64 sf, .int .i64 st, .int .i64 nf, .int .i64 nt], RowsN cardK v' l2, IdxN S' X l2, BoxN w.heap.size 25 #[.int .i64 sf, .int .i64 st]] V4) := HLd.out.sub (by simp)
        clear HLd
        go_loopw [119] (fun i wr => ∃ j : Nat, j ≤ 2 ∧ i = .int .i64 j ∧ Hid (LiveP w [BoxN gl 25 #[.int .i64 sf, .int .i64 st, .int .i64 nf, .int .i64 nt], RowsN cardK v' l2, IdxN S' X l2, BoxN w.heap.size 25 #[.int .i64 sf, .int .i64 st]] wr)) (fun i _ => 2 - (intOf i).toNat)
        case atStart => exact ⟨0, by omega, rfl, HLe⟩
        case round =>
          obtain ⟨j, hj, rfl, HL⟩ := hrel
          clear HLe
          have j0 : 0 ≤ (j : Int) := by omega
          by_cases hj2 : j < 2
          · have j1 : (j : Int) < 2 := by omega
            obtain ⟨a, ha⟩ : ∃ a, a = if j = 0 then sf else nf := ⟨_, rfl⟩
            obtain ⟨b, hb⟩ : ∃ b, b = if j = 0 then st else nt := ⟨_, rfl⟩
            have hlv : 1 < (2 : Nat) := by omega
            have hbl : BoxN gl 25 #[.int .i64 sf, .int .i64 st, .int .i64 nf, .int .i64 nt] wr := HL.out.get (by simp)
            have x0 : wr.cell? ⟨gl, j * 2, none⟩ = some (.int .i64 a) := BoxN.cell hbl _ _ (by rw [ha]; rcases (show j = 0 ∨ j = 1 by omega) with rfl | rfl <;> rfl)
            have x1 : wr.cell? ⟨gl, j * 2 + 1, none⟩ = some (.int .i64 b) := BoxN.cell hbl _ _ (by rw [hb]; rcases (show j = 0 ∨ j = 1 by omega) with rfl | rfl <;> rfl)
            obtain ⟨Va, hVa⟩ : ∃ V, V = wr.alloc (.cells #[.int .i64 a, .int .i64 b] 25) := ⟨_, rfl⟩
            have hba : Below wr.heap.size wr Va := by rw [hVa]; exact (Below.refl _ _).alloc (Nat.le_refl _) _
            have hxa : BoxN wr.heap.size 25 #[.int .i64 a, .int .i64 b] Va := by rw [hVa]; exact box_new wr _ _
            obtain ⟨Vb, hVb⟩ : ∃ V, V = Va.alloc (.cells #[.int .i64 uz, .int .i64 pu] 3) := ⟨_, rfl⟩
            have hbb : Below Va.heap.size Va Vb := by rw [hVb]; exact (Below.refl _ _).alloc (Nat.le_refl _) _
            have hxb : BoxN Va.heap.size 3 #[.int .i64 uz, .int .i64 pu] Vb := by rw [hVb]; exact box_new Va _ _
            have HM := Lib.hid ((((HL.out.step hba).add (keep_box hxa)).step hbb).add (keep_box hxb))
            have HVa := Lib.hid hVa; have HVb := Lib.hid hVb
            clear ha hb hlv hbl hba hxa hbb hxb hVa hVb HL
            go_wp2_with fail
            clear x0 x1
            rw [← HVa.out]
            refine (HPu.out _).mono ?_
            rintro e w' ⟨rfl, rfl⟩
            go_wp2
            rw [← HVb.out]
            generalize wr.heap.size = ga at *
            generalize Va.heap.size = gi at *
            clear HVa HVb
            go_loopw [128] (fun i wr => ∃ m : Nat, m ≤ 2 ∧ i = .int .i64 m ∧ Hid (LiveP w [BoxN gi 3 #[.int .i64 uz, .int .i64 pu], BoxN ga 25 #[.int .i64 a, .int .i64 b], BoxN gl 25 #[.int .i64 sf, .int .i64 st, .int .i64 nf, .int .i64 nt], RowsN cardK v' l2, IdxN S' X l2, BoxN w.heap.size 25 #[.int .i64 sf, .int .i64 st]] wr)) (fun i _ => 2 - (intOf i).toNat)
            case atStart => exact ⟨0, by omega, rfl, HM⟩
            case round =>
              obtain ⟨m, hm, rfl, HL⟩ := hrel
              clear HM
              have m0 : 0 ≤ (m : Int) := by omega
              by_cases hm2 : m < 2
              · have m1 : (m : Int) < 2 := by omega
                obtain ⟨u, hu⟩ : ∃ u, u = if m = 0 then uz else pu := ⟨_, rfl⟩
                have hbi : BoxN gi 3 #[.int .i64 uz, .int .i64 pu] wr := HL.out.get (by simp)
                have x0 : wr.cell? ⟨gi, m, none⟩ = some (.int .i64 u) := BoxN.cell hbi _ _ (by rw [hu]; rcases (show m = 0 ∨ m = 1 by omega) with rfl | rfl <;> rfl)
                clear hu hbi
                go_wp2
                clear x0
                obtain ⟨D, hD⟩ : ∃ D, D = durE l2 a b := ⟨_, rfl⟩
                obtain ⟨A, hA⟩ : ∃ A, A = aboutE l2 u a b := ⟨_, rfl⟩
                have HD1 : Hid (∀ W, IdxN S' X l2 W → Calls Tryz.prog 15 #[.pointer (some ⟨X, 0, none⟩), .agg #[.int .i64 a, .int .i64 b]] W fun e w' => ∃ v, e = .returned v ∧ OwnK intK W.heap.size w' v D ∧ Below W.heap.size W w') := fun W h => by rw [hD]; exact during_any a b W h
                have HA1 : Hid (∀ W, IdxN S' X l2 W → Calls Tryz.prog 17 #[.pointer (some ⟨X, 0, none⟩), .int .i64 u, .agg #[.int .i64 a, .int .i64 b]] W fun e w' => ∃ v, e = .returned v ∧ OwnK intK W.heap.size w' v A ∧ Below W.heap.size W w') := fun W h => by rw [hA]; exact about_any u a b W h
                have HD2 : Hid (∀ W, RowsAt cardK W.heap.size W v' l2 → Calls Tryz.prog 16 #[v', .agg #[.int .i64 a, .int .i64 b]] W fun e w' => ∃ v, e = .returned v ∧ OwnK intK W.heap.size w' v D ∧ Below W.heap.size W w') := fun W h => by rw [hD]; exact rduring_any v' l2 a b W h HOk2.out
                have HA2 : Hid (∀ W, RowsAt cardK W.heap.size W v' l2 → Calls Tryz.prog 18 #[v', .int .i64 u, .agg #[.int .i64 a, .int .i64 b]] W fun e w' => ∃ v, e = .returned v ∧ OwnK intK W.heap.size w' v A ∧ Below W.heap.size W w') := fun W h => by rw [hA]; exact rabout_any v' l2 u a b W h HOk2.out
                have HQ : Hid (∀ W, wr.grownBy W none → (W.cell? ⟨ga, 0, none⟩ = some (.int .i64 a) ∧ W.cell? ⟨ga, 1, none⟩ = some (.int .i64 b)) ∧ IdxN S' X l2 W ∧ RowsAt cardK W.heap.size W v' l2) := fun W hW => by
                  have hL := HL.out.step (grown_below hW)
                  exact ⟨⟨BoxN.cell (show (BoxN ga 25 #[.int .i64 a, .int .i64 b]) _ from hL.get (by simp)) 0 _ rfl, BoxN.cell (show (BoxN ga 25 #[.int .i64 a, .int .i64 b]) _ from hL.get (by simp)) 1 _ rfl⟩, (show (IdxN S' X l2) _ from hL.get (by simp)), (show (RowsN cardK v' l2) _ from hL.get (by simp))⟩
                clear hD hA
                refine wp_region_calm (tagPl [2, 5, 6, 12, 16, 17] [(2, .own intK wr.heap.size D), (5, .own intK wr.heap.size D), (6, .val (.bool true)), (12, .own intK wr.heap.size A), (16, .own intK wr.heap.size A), (17, .val (.bool true))] 1000) (by kernel_rfl) (by kernel_rfl) (by kernel_rfl) tag_c0 tag_hst ?_
                iterate 1 (refine calm_quiet (v := ?_) (by rfl) (by rfl) (fun W hW hD => ?_) ?_; rotate_left; (· (clear hD hW; go_simp; try with_reducible rfl)); simp only [Act.put, List.setIfInBounds_toArray, List.set_cons_zero, List.set_cons_succ, Nat.reduceAdd, Nat.zero_add])
                iterate 1 (refine calm_quiet (v := ?_) (by rfl) (by rfl) (fun W hW hD => ?_) ?_; rotate_left; (· (obtain ⟨⟨y0, y1⟩, _⟩ := HQ.out W hW; clear hD hW; go_simp; try with_reducible rfl)); simp only [Act.put, List.setIfInBounds_toArray, List.set_cons_zero, List.set_cons_succ, Nat.reduceAdd, Nat.zero_add])
                refine calm_makes (by rfl) (by rfl) (fun W hW hD Kc hK => ?_) (fun va => ?_)
                · obtain ⟨_, hX, hR⟩ := HQ.out W hW
                  have hz := hW.size
                  refine wp_of_call (f := 15) ?_ ((HD1.out W hX).mono ?_)
                  · clear hD hW hK hX hR
                    go_simp
                  · rintro e w5 ⟨v5, rfl, ho5, hb5⟩
                    exact ⟨_, rfl, hK _ _ (made_below (OwnK.mono ho5 hz) hb5 (World.ownsRow.lt ho5))⟩
                simp only [Act.put, List.setIfInBounds_toArray, List.set_cons_zero, List.set_cons_succ, Nat.reduceAdd, Nat.zero_add]
                iterate 1 (refine calm_quiet (v := ?_) (by rfl) (by rfl) (fun W hW hD => ?_) ?_; rotate_left; (· (clear hD hW; go_simp; try with_reducible rfl)); simp only [Act.put, List.setIfInBounds_toArray, List.set_cons_zero, List.set_cons_succ, Nat.reduceAdd, Nat.zero_add])
                iterate 1 (refine calm_quiet (v := ?_) (by rfl) (by rfl) (fun W hW hD => ?_) ?_; rotate_left; (· (obtain ⟨⟨y0, y1⟩, _⟩ := HQ.out W hW; clear hD hW; go_simp; try with_reducible rfl)); simp only [Act.put, List.setIfInBounds_toArray, List.set_cons_zero, List.set_cons_succ, Nat.reduceAdd, Nat.zero_add])
                refine calm_makes (by rfl) (by rfl) (fun W hW hD Kc hK => ?_) (fun vb => ?_)
                · obtain ⟨_, hX, hR⟩ := HQ.out W hW
                  have hz := hW.size
                  refine wp_of_call (f := 16) ?_ ((HD2.out W hR).mono ?_)
                  · clear hD hW hK hX hR
                    go_simp
                  · rintro e w5 ⟨v5, rfl, ho5, hb5⟩
                    exact ⟨_, rfl, hK _ _ (made_below (OwnK.mono ho5 hz) hb5 (World.ownsRow.lt ho5))⟩
                simp only [Act.put, List.setIfInBounds_toArray, List.set_cons_zero, List.set_cons_succ, Nat.reduceAdd, Nat.zero_add]
                refine calm_fixed (.bool true) ⟨(default : World), rfl⟩ (fun v W h => h) rfl (by rfl) (by rfl) (fun W hW hD Kc hK => ?_) ?_
                · have h2 : OwnK intK wr.heap.size W va D := hD [] 2 (by kernel_rfl) (by kernel_rfl) (by kernel_rfl)
                  have h5 : OwnK intK wr.heap.size W vb D := hD [] 5 (by kernel_rfl) (by kernel_rfl) (by kernel_rfl)
                  refine wp_of_call (f := 14) (args := #[va, vb]) ?_ ((sameI_any va vb D D W (h2.rows intOk) (h5.rows intOk)).mono ?_)
                  · clear hD hW hK h2 h5
                    go_simp
                  · rintro e w5 ⟨rfl, hb5⟩
                    rw [beq_self_eq_true]
                    exact ⟨_, rfl, hK _ _ (made_plain rfl hb5 rfl)⟩
                simp only [Act.put, List.setIfInBounds_toArray, List.set_cons_zero, List.set_cons_succ, Nat.reduceAdd, Nat.zero_add]
                iterate 2 (refine calm_quiet (v := ?_) (by rfl) (by rfl) (fun W hW hD => ?_) ?_; rotate_left; (· (clear hD hW; go_simp; try with_reducible rfl)); simp only [Act.put, List.setIfInBounds_toArray, List.set_cons_zero, List.set_cons_succ, Nat.reduceAdd, Nat.zero_add])
                iterate 2 (refine calm_quiet (v := ?_) (by rfl) (by rfl) (fun W hW hD => ?_) ?_; rotate_left; (· (clear hD hW; go_simp; try with_reducible rfl)); simp only [Act.put, List.setIfInBounds_toArray, List.set_cons_zero, List.set_cons_succ, Nat.reduceAdd, Nat.zero_add])
                iterate 1 (refine calm_quiet (v := ?_) (by rfl) (by rfl) (fun W hW hD => ?_) ?_; rotate_left; (· (obtain ⟨⟨y0, y1⟩, _⟩ := HQ.out W hW; clear hD hW; go_simp; try with_reducible rfl)); simp only [Act.put, List.setIfInBounds_toArray, List.set_cons_zero, List.set_cons_succ, Nat.reduceAdd, Nat.zero_add])
                refine calm_makes (by rfl) (by rfl) (fun W hW hD Kc hK => ?_) (fun vc => ?_)
                · obtain ⟨_, hX, hR⟩ := HQ.out W hW
                  have hz := hW.size
                  refine wp_of_call (f := 17) ?_ ((HA1.out W hX).mono ?_)
                  · clear hD hW hK hX hR
                    go_simp
                  · rintro e w5 ⟨v5, rfl, ho5, hb5⟩
                    exact ⟨_, rfl, hK _ _ (made_below (OwnK.mono ho5 hz) hb5 (World.ownsRow.lt ho5))⟩
                simp only [Act.put, List.setIfInBounds_toArray, List.set_cons_zero, List.set_cons_succ, Nat.reduceAdd, Nat.zero_add]
                iterate 2 (refine calm_quiet (v := ?_) (by rfl) (by rfl) (fun W hW hD => ?_) ?_; rotate_left; (· (clear hD hW; go_simp; try with_reducible rfl)); simp only [Act.put, List.setIfInBounds_toArray, List.set_cons_zero, List.set_cons_succ, Nat.reduceAdd, Nat.zero_add])
                iterate 1 (refine calm_quiet (v := ?_) (by rfl) (by rfl) (fun W hW hD => ?_) ?_; rotate_left; (· (obtain ⟨⟨y0, y1⟩, _⟩ := HQ.out W hW; clear hD hW; go_simp; try with_reducible rfl)); simp only [Act.put, List.setIfInBounds_toArray, List.set_cons_zero, List.set_cons_succ, Nat.reduceAdd, Nat.zero_add])
                refine calm_makes (by rfl) (by rfl) (fun W hW hD Kc hK => ?_) (fun vd => ?_)
                · obtain ⟨_, hX, hR⟩ := HQ.out W hW
                  have hz := hW.size
                  refine wp_of_call (f := 18) ?_ ((HA2.out W hR).mono ?_)
                  · clear hD hW hK hX hR
                    go_simp
                  · rintro e w5 ⟨v5, rfl, ho5, hb5⟩
                    exact ⟨_, rfl, hK _ _ (made_below (OwnK.mono ho5 hz) hb5 (World.ownsRow.lt ho5))⟩
                simp only [Act.put, List.setIfInBounds_toArray, List.set_cons_zero, List.set_cons_succ, Nat.reduceAdd, Nat.zero_add]
                refine calm_fixed (.bool true) ⟨(default : World), rfl⟩ (fun v W h => h) rfl (by rfl) (by rfl) (fun W hW hD Kc hK => ?_) ?_
                · have h12 : OwnK intK wr.heap.size W vc A := hD [] 12 (by kernel_rfl) (by kernel_rfl) (by kernel_rfl)
                  have h16 : OwnK intK wr.heap.size W vd A := hD [] 16 (by kernel_rfl) (by kernel_rfl) (by kernel_rfl)
                  refine wp_of_call (f := 14) (args := #[vc, vd]) ?_ ((sameI_any vc vd A A W (h12.rows intOk) (h16.rows intOk)).mono ?_)
                  · clear hD hW hK h12 h16
                    go_simp
                  · rintro e w5 ⟨rfl, hb5⟩
                    rw [beq_self_eq_true]
                    exact ⟨_, rfl, hK _ _ (made_plain rfl hb5 rfl)⟩
                simp only [Act.put, List.setIfInBounds_toArray, List.set_cons_zero, List.set_cons_succ, Nat.reduceAdd, Nat.zero_add]
                iterate 2 (refine calm_quiet (v := ?_) (by rfl) (by rfl) (fun W hW hD => ?_) ?_; rotate_left; (· (clear hD hW; go_simp; try with_reducible rfl)); simp only [Act.put, List.setIfInBounds_toArray, List.set_cons_zero, List.set_cons_succ, Nat.reduceAdd, Nat.zero_add])
                refine calm_nil fun W hW hF => ?_
                have HL9 := Lib.hid (HL.out.step (grown_below hW))
                clear hF hW HQ HL
                go_wp2
                go_roundw
                case rel => exact ⟨m + 1, by omega, by go_num, HL9⟩
                case measure => simp [intOf]; omega
              · obtain rfl : m = 2 := by omega
                have HL9 : Hid (LiveP w [BoxN gl 25 #[.int .i64 sf, .int .i64 st, .int .i64 nf, .int .i64 nt], RowsN cardK v' l2, IdxN S' X l2, BoxN w.heap.size 25 #[.int .i64 sf, .int .i64 st]] wr) := HL.out.sub (by simp)
                clear HL hm hm2
                go_wp2
                go_roundw
                case rel => exact ⟨j + 1, by omega, by go_num, HL9⟩
                case measure => simp [intOf]; omega
          · obtain rfl : j = 2 := by omega
            obtain ⟨Vk, hVk⟩ : ∃ V, V = wr.alloc (.cells #[.int .i64 kz, .int .i64 pk] 3) := ⟨_, rfl⟩
            have hbk : Below wr.heap.size wr Vk := by rw [hVk]; exact (Below.refl _ _).alloc (Nat.le_refl _) _
            have hxk : BoxN wr.heap.size 3 #[.int .i64 kz, .int .i64 pk] Vk := by rw [hVk]; exact box_new wr _ _
            obtain ⟨gk, hgk⟩ : ∃ g, g = wr.heap.size := ⟨_, rfl⟩
            rw [← hgk] at hxk
            have HK : Hid (LiveP w [BoxN gk 3 #[.int .i64 kz, .int .i64 pk], RowsN cardK v' l2, IdxN S' X l2] Vk) := ((HL.out.step hbk).add (keep_box hxk)).sub (by simp)
            have HGk := Lib.hid hgk; have HVk := Lib.hid hVk
            clear hVk hbk hxk hgk HL hj hj2
            go_wp2_with fail
            refine (HPk.out _).mono ?_
            rintro e w' ⟨rfl, rfl⟩
            go_wp2
            rw [← HVk.out, ← HGk.out]
            clear HVk HGk
            go_loopw [159] (fun i wr => ∃ m : Nat, m ≤ 2 ∧ i = .int .i64 m ∧ Hid (LiveP w [BoxN gk 3 #[.int .i64 kz, .int .i64 pk], RowsN cardK v' l2, IdxN S' X l2] wr)) (fun i _ => 2 - (intOf i).toNat)
            case atStart => exact ⟨0, by omega, rfl, HK⟩
            case round =>
              obtain ⟨m, hm, rfl, HL⟩ := hrel
              clear HK
              have m0 : 0 ≤ (m : Int) := by omega
              by_cases hm2 : m < 2
              · have m1 : (m : Int) < 2 := by omega
                obtain ⟨u, hu⟩ : ∃ u, u = if m = 0 then kz else pk := ⟨_, rfl⟩
                have hbi : BoxN gk 3 #[.int .i64 kz, .int .i64 pk] wr := HL.out.get (by simp)
                have x0 : wr.cell? ⟨gk, m, none⟩ = some (.int .i64 u) := BoxN.cell hbi _ _ (by rw [hu]; rcases (show m = 0 ∨ m = 1 by omega) with rfl | rfl <;> rfl)
                have HUi : Hid (inI u) := by show inI _; rw [hu]; split; exact HKi.out.1; exact HKi.out.2
                clear hu hbi
                obtain ⟨r1, hr1⟩ : ∃ z, z = (rankE l2 u).1 := ⟨_, rfl⟩
                obtain ⟨r2, hr2⟩ : ∃ z, z = (rankE l2 u).2 := ⟨_, rfl⟩
                obtain ⟨s1, hs1⟩ : ∃ z, z = (kthE l2 u).1 := ⟨_, rfl⟩
                obtain ⟨s2, hs2⟩ : ∃ z, z = (kthE l2 u).2 := ⟨_, rfl⟩
                have HK1 : Hid (∀ W, IdxN S' X l2 W → Calls Tryz.prog 19 #[.pointer (some ⟨X, 0, none⟩), .int .i64 u] W fun e w' => e = .returned (.tuple #[.int .i64 r1, .int .i64 r2]) ∧ Below W.heap.size W w') := fun W h => by rw [hr1, hr2]; exact rank_any u W h HUi.out
                have HK2 : Hid (∀ W, RowsAt cardK W.heap.size W v' l2 → Calls Tryz.prog 20 #[v', .int .i64 u] W fun e w' => e = .returned (.tuple #[.int .i64 r1, .int .i64 r2]) ∧ Below W.heap.size W w') := fun W h => by rw [hr1, hr2]; exact rrank_any v' l2 u W h HOk2.out
                have HK3 : Hid (∀ W, IdxN S' X l2 W → Calls Tryz.prog 21 #[.pointer (some ⟨X, 0, none⟩), .int .i64 u] W fun e w' => e = .returned (.tuple #[.int .i64 s1, .int .i64 s2]) ∧ w' = W) := fun W h => by rw [hs1, hs2]; exact kth_any u W h
                have HK4 : Hid (∀ W, RowsAt cardK W.heap.size W v' l2 → Calls Tryz.prog 22 #[v', .int .i64 u] W fun e w' => e = .returned (.tuple #[.int .i64 s1, .int .i64 s2]) ∧ w' = W) := fun W h => by rw [hs1, hs2]; exact rkth_any v' l2 u W h HOk2.out
                have br1 : (r1 != r1) = false := by simp
                have br2 : (r2 != r2) = false := by simp
                have bs1 : (s1 != s1) = false := by simp
                have bs2 : (s2 != s2) = false := by simp
                clear hr1 hr2 hs1 hs2
                go_wp2_with fail
                clear x0
                refine (HK1.out _ (show (IdxN S' X l2) _ from HL.out.get (by simp))).mono ?_
                rintro e w6 ⟨rfl, hb⟩
                have HL6 := Lib.hid (HL.out.step hb)
                clear hb HL
                go_wp2_with fail
                refine (HK2.out _ (show (RowsN cardK v' l2) _ from HL6.out.get (by simp))).mono ?_
                rintro e w7 ⟨rfl, hb⟩
                have HL7 := Lib.hid (HL6.out.step hb)
                clear hb HL6
                go_wp2_with fail
                refine (HK3.out _ (show (IdxN S' X l2) _ from HL7.out.get (by simp))).mono ?_
                rintro e w' ⟨rfl, rfl⟩
                go_wp2_with fail
                refine (HK4.out _ (show (RowsN cardK v' l2) _ from HL7.out.get (by simp))).mono ?_
                rintro e w' ⟨rfl, rfl⟩
                go_wp2
                go_roundw
                case rel => exact ⟨m + 1, by omega, by go_num, HL7⟩
                case measure => simp [intOf]; omega
              · obtain rfl : m = 2 := by omega
                have HLx : Hid (LiveP w [RowsN cardK v' l2, IdxN S' X l2] wr) := HL.out.sub (by simp)
                clear HL hm hm2
                obtain ⟨cy, hcy⟩ : ∃ z, z = countE l2 yz := ⟨_, rfl⟩
                obtain ⟨cp, hcp⟩ : ∃ z, z = countE l2 py := ⟨_, rfl⟩
                obtain ⟨rt, hrt⟩ : ∃ z, z = rootL (codesC l2) := ⟨_, rfl⟩
                obtain ⟨L, hL⟩ : ∃ z, z = levsR (fun y : Nat => (cntY l2 (y : Int) : Int)) 2100 := ⟨_, rfl⟩
                obtain ⟨bb, hbb⟩ : ∃ z, z = busE (levsR (fun y : Nat => (cntY l2 (y : Int) : Int)) 2100) := ⟨_, rfl⟩
                have HC1 : Hid (∀ W, IdxN S' X l2 W → Calls Tryz.prog 23 #[.pointer (some ⟨X, 0, none⟩), .int .i64 yz] W fun e w' => e = .returned (.int .i64 cy) ∧ w' = W) := fun W h => by rw [hcy]; exact count_any yz W h
                have HC2 : Hid (∀ W, RowsAt cardK W.heap.size W v' l2 → Calls Tryz.prog 24 #[v', .int .i64 yz] W fun e w' => e = .returned (.int .i64 cy) ∧ w' = W) := fun W h => by rw [hcy]; exact rcount_any v' l2 yz W h HOk2.out
                have HC3 : Hid (∀ W, IdxN S' X l2 W → Calls Tryz.prog 23 #[.pointer (some ⟨X, 0, none⟩), .int .i64 py] W fun e w' => e = .returned (.int .i64 cp) ∧ w' = W) := fun W h => by rw [hcp]; exact count_any py W h
                have HC4 : Hid (∀ W, RowsAt cardK W.heap.size W v' l2 → Calls Tryz.prog 24 #[v', .int .i64 py] W fun e w' => e = .returned (.int .i64 cp) ∧ w' = W) := fun W h => by rw [hcp]; exact rcount_any v' l2 py W h HOk2.out
                have HP1 : Hid (∀ W, IdxN S' X l2 W → Calls Tryz.prog 28 #[.pointer (some ⟨X, 0, none⟩)] W fun e w' => ∃ v, e = .returned v ∧ OwnK levK W.heap.size w' v L ∧ Below W.heap.size W w') := fun W h => by rw [hL]; exact profile_any W h
                have HP2 : Hid (∀ W, RowsAt cardK W.heap.size W v' l2 → Calls Tryz.prog 29 #[v'] W fun e w' => ∃ v, e = .returned v ∧ OwnK levK W.heap.size w' v L ∧ Below W.heap.size W w') := fun W h => by rw [hL]; exact rprofile_any v' l2 W h HOk2.out
                have HB1 : Hid (∀ W, IdxN S' X l2 W → Calls Tryz.prog 30 #[.pointer (some ⟨X, 0, none⟩)] W fun e w' => e = .returned (levV bb) ∧ Below W.heap.size W w') := fun W h => by rw [hbb]; exact busiest_any W h
                have HB2 : Hid (∀ W, RowsAt cardK W.heap.size W v' l2 → Calls Tryz.prog 31 #[v'] W fun e w' => e = .returned (levV bb) ∧ Below W.heap.size W w') := fun W h => by rw [hbb]; exact rbusiest_any v' l2 W h HOk2.out
                have HR1 : Hid (∀ W, IdxN S' X l2 W → Rounds W → Calls Tryz.prog 32 #[.pointer (some ⟨X, 0, none⟩)] W fun e w' => e = .returned (.string (bs rt)) ∧ Below W.heap.size W w') := fun W h hT_ => by rw [hrt]; exact iroot_any W h hT_
                have HR2 : Hid (∀ W, RowsAt cardK W.heap.size W v' l2 → Calls Tryz.prog 33 #[v'] W fun e w' => e = .returned (.string (bs rt)) ∧ Below W.heap.size W w') := fun W h => by rw [hrt]; exact rroot_any v' l2 W h HOk2.out
                have eqy : (cy == cy) = true := by simp
                have eqp : (cp == cp) = true := by simp
                have hqs : ((bs rt).toList == (bs rt).toList) = true := by simp
                have hqb : ∀ W, (binOp .eql 60 (levV bb) (levV bb)).run Tryz.prog W = .ok (.bool true) W := fun W => by rw [run_eqlLev]; simp
                clear hcy hcp hrt hL hbb
                go_wp2_with fail
                refine (HC1.out _ (show (IdxN S' X l2) _ from HLx.out.get (by simp))).mono ?_
                rintro e w' ⟨rfl, rfl⟩
                go_wp2_with fail
                refine (HC2.out _ (show (RowsN cardK v' l2) _ from HLx.out.get (by simp))).mono ?_
                rintro e w' ⟨rfl, rfl⟩
                go_wp2_with fail
                refine (HPy.out _).mono ?_
                rintro e w' ⟨rfl, rfl⟩
                go_wp2_with fail
                refine (HC3.out _ (show (IdxN S' X l2) _ from HLx.out.get (by simp))).mono ?_
                rintro e w' ⟨rfl, rfl⟩
                go_wp2_with fail
                refine (HPy.out _).mono ?_
                rintro e w' ⟨rfl, rfl⟩
                go_wp2_with fail
                refine (HC4.out _ (show (RowsN cardK v' l2) _ from HLx.out.get (by simp))).mono ?_
                rintro e w' ⟨rfl, rfl⟩
                go_wp2_with fail
                refine (cards_any _ (show (IdxN S' X l2) _ from HLx.out.get (by simp))).mono ?_
                rintro e w8 ⟨cv, rfl, ho, hb⟩
                have HLy := Lib.hid ((HLx.out.step hb).add (keep_rows (ho.rows cardOk)))
                clear hb ho HLx
                go_wp2_with fail
                refine (sameC_any cv v' l2 l2 _ (show (RowsN cardK cv l2) _ from HLy.out.get (by simp)) (show (RowsN cardK v' l2) _ from HLy.out.get (by simp))).mono ?_
                rintro e w9 ⟨rfl, hb⟩
                rw [beq_self_eq_true]
                have HLz := Lib.hid (HLy.out.step hb)
                clear hb HLy
                go_wp2_with fail
                refine (HP1.out _ (show (IdxN S' X l2) _ from HLz.out.get (by simp))).mono ?_
                rintro e w10 ⟨pv, rfl, ho, hb⟩
                have HLa1 := Lib.hid ((HLz.out.step hb).add (keep_rows (ho.rows levKOk)))
                clear hb ho HLz
                go_wp2_with fail
                refine (HP2.out _ (show (RowsN cardK v' l2) _ from HLa1.out.get (by simp))).mono ?_
                rintro e w11 ⟨pw, rfl, ho, hb⟩
                have HLa2 := Lib.hid ((HLa1.out.step hb).add (keep_rows (ho.rows levKOk)))
                clear hb ho HLa1
                go_wp2_with fail
                refine (sameL_any pv pw L L _ (show (RowsN levK pv L) _ from HLa2.out.get (by simp)) (show (RowsN levK pw L) _ from HLa2.out.get (by simp))).mono ?_
                rintro e w12 ⟨rfl, hb⟩
                rw [beq_self_eq_true]
                have HLa3 := Lib.hid (HLa2.out.step hb)
                clear hb HLa2
                go_wp2_with fail
                refine (HB1.out _ (show (IdxN S' X l2) _ from HLa3.out.get (by simp))).mono ?_
                rintro e w13 ⟨rfl, hb⟩
                have HLa4 := Lib.hid (HLa3.out.step hb)
                clear hb  HLa3
                go_wp2_with fail
                refine (HB2.out _ (show (RowsN cardK v' l2) _ from HLa4.out.get (by simp))).mono ?_
                rintro e w14 ⟨rfl, hb⟩
                have HLa5 := Lib.hid (HLa4.out.step hb)
                clear hb  HLa4
                go_wp2_with fail
                refine (HR1.out _ (show (IdxN S' X l2) _ from HLa5.out.get (by simp)) HLa5.out.rounds).mono ?_
                rintro e w15 ⟨rfl, hb⟩
                have HLa6 := Lib.hid (HLa5.out.step hb)
                clear hb  HLa5
                go_wp2_with fail
                refine (HR2.out _ (show (RowsN cardK v' l2) _ from HLa6.out.get (by simp))).mono ?_
                rintro e w16 ⟨rfl, hb⟩
                have HLa7 := Lib.hid (HLa6.out.step hb)
                clear hb  HLa6
                go_wp2
                go_ret
                exact ⟨rfl, HLa7.out.below⟩
end Go.Proofs.YtcgopilkajfghaaGreatDoor
