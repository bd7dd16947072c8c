/- Profile of an index. -/
import Derived.Test.YtcgopilkajfghaaGreatDoorIDur
import Derived.Test.YtcgopilkajfghaaGreatDoorILevel
set_option linter.unusedVariables false
set_option linter.unusedSimpArgs false
namespace Go.Proofs.YtcgopilkajfghaaGreatDoor
open Go.RowKit Go.Shelf

theorem cellsK_set {α : Type} [Inhabited α] {K : SK α} (ok : K.Ok) : ∀ (l : List α) (k f : Nat) (y : α) (u : Value), k < l.length → f < K.size → K.enc y = (K.enc (l.getD k default)).set f u → cellsK K (l.set k y) = (cellsK K l).set (k * K.size + f) u
  | [], k, _, _, _, h, _, _ => by simp at h
  | x :: tl, 0, f, y, u, _, hf, he => by
    have e : cellsK K (x :: tl) = K.enc x ++ cellsK K tl := rfl
    have e2 : cellsK K (y :: tl) = K.enc y ++ cellsK K tl := rfl
    rw [List.set_cons_zero, e, e2, Nat.zero_mul, Nat.zero_add, List.set_append_left _ _ (by rw [ok.len]; exact hf), he]
    rfl
  | x :: tl, k + 1, f, y, u, h, hf, he => by
    have e : cellsK K (x :: tl) = K.enc x ++ cellsK K tl := rfl
    have e2 : cellsK K (x :: tl.set k y) = K.enc x ++ cellsK K (tl.set k y) := rfl
    have e3 : (k + 1) * K.size + f - K.size = k * K.size + f := by rw [Nat.succ_mul]; omega
    rw [List.set_cons_succ, e, e2, List.set_append_right _ _ (by rw [ok.len, Nat.succ_mul]; omega), ok.len, e3, cellsK_set ok tl k f y u (by simpa using h) hf he]
theorem ownK_storeC {α : Type} [Inhabited α] {K : SK α} (ok : K.Ok) {base : Nat} {W : World} {g n cap : Nat} {l : List α} (h : OwnK K base W (.slice (some ⟨g, 0, none⟩) n cap) l) (k f : Nat) (y : α) (u : Value) (hk : k < l.length) (hf : f < K.size) (he : K.enc y = (K.enc (l.getD k default)).set f u) :
    OwnK K base (W.setCell ⟨g, k * K.size + f, none⟩ u) (.slice (some ⟨g, 0, none⟩) n cap) (l.set k y) := by
  have hn : n = l.length := (h.rows ok).len.1
  subst hn
  have := (World.ownsRow.stored (show W.ownsRow base K.ty K.size _ _ _ from h) (k * K.size + f) u).1
  unfold OwnK
  rw [List.length_set, cellsK_set ok l k f y u hk hf he]
  exact this
def levK : SK ILev := ⟨60, 56, 3, 24, .agg #[.int .i64 0, .int .i64 0, .int .i64 0], fun q => [.int .i64 (q.beg : Nat), .int .i64 (q.fin : Nat), .int .i64 q.cnt]⟩
theorem levKOk : levK.Ok where
  pos := by decide
  len := fun _ => rfl
  one := fun x u hu => by
    simp only [levK, List.mem_cons, List.not_mem_nil, or_false] at hu
    rcases hu with rfl | rfl | rfl <;> rfl
  und := Tryz.underlying56
  info := by kernel_rfl
  zc := rfl
  small := by decide
theorem levs_snoc (f : Nat → Int) (y : Nat) (hy : 0 < y) : ∃ I b c, levsR f y = I ++ [⟨b, y, c⟩] := by
  have h := levs_ok f y
  generalize levsR f y = L at *
  cases h with
  | nil => omega
  | @snoc a _ init n h1 h2 h3 h4 => exact ⟨init, a, n, rfl⟩
theorem levs_next {f : Nat → Int} {y b : Nat} {I : List ILev} {c : Int} (h : levsR f y = I ++ [⟨b, y, c⟩]) : levsR f (y + 1) = if c = f y then I ++ [⟨b, y + 1, c⟩] else I ++ [⟨b, y, c⟩] ++ [⟨y, y + 1, f y⟩] := by
  rw [levsR, h]
  simp only [List.getLast?_append, List.getLast?_singleton, Option.some_or, List.dropLast_concat]
theorem levs_len (f : Nat → Int) : ∀ y, (levsR f y).length ≤ y
  | 0 => Nat.le_refl _
  | y + 1 => by
    have ih := levs_len f y
    by_cases h0 : y = 0
    · subst h0; rw [levsR]; simp [levsR]
    · obtain ⟨I, b, c, h⟩ := levs_snoc f y (by omega)
      rw [levs_next h]
      rw [h] at ih
      split
      · simp at ih ⊢; omega
      · simp at ih ⊢; omega
theorem levs_one (f : Nat → Int) : levsR f 1 = [⟨0, 1, f 0⟩] := by simp [levsR]
/-- What the levels hold when a year comes up: the last one has no end yet. -/
def LevI (f : Nat → Int) (y : Nat) (I : List ILev) (b : Nat) (c : Int) : Prop := levsR f (max y 1) = I ++ [⟨b, max y 1, c⟩]
theorem levI_zero (f : Nat → Int) : LevI f 0 [] 0 (f 0) := levs_one f
theorem levI_len {f : Nat → Int} {y b : Nat} {I : List ILev} {c : Int} (h : LevI f y I b c) (hy : y ≤ 2100) : I.length < 2100 := by
  have h1 := levs_len f (max y 1)
  rw [h] at h1
  simp at h1
  omega
theorem levI_eq {f : Nat → Int} {y b : Nat} {I : List ILev} {c : Int} (h : LevI f y I b c) (he : f y = c) : LevI f (y + 1) I b c := by
  unfold LevI at *
  by_cases h0 : y = 0
  · subst h0; exact h
  · rw [show max y 1 = y by omega] at h
    rw [show max (y + 1) 1 = y + 1 by omega, levs_next h, if_pos he.symm]
theorem levI_ne {f : Nat → Int} {y b : Nat} {I : List ILev} {c : Int} (h : LevI f y I b c) (he : f y ≠ c) : LevI f (y + 1) (I ++ [⟨b, y, c⟩]) y (f y) := by
  unfold LevI at *
  by_cases h0 : y = 0
  · subst h0
    rw [show max 0 1 = 1 from rfl, levs_one] at h
    cases I with
    | nil => simp only [List.nil_append, List.cons.injEq, ILev.mk.injEq, and_true] at h; exact absurd h.2.2 he
    | cons z t => simp at h
  · rw [show max y 1 = y by omega] at h
    rw [show max (y + 1) 1 = y + 1 by omega, levs_next h, if_neg (fun e => he e.symm)]
theorem levI_end {f : Nat → Int} {b : Nat} {I : List ILev} {c : Int} (h : LevI f 2100 I b c) : I ++ [⟨b, 2100, c⟩] = levsR f 2100 := h.symm
theorem countE_at (l : List ICard) (y : Nat) (hy : y < 2100) : countE l (y : Int) = (cntY l (y : Int) : Int) := by
  unfold countE inC
  rw [if_pos]
  simp
  omega
theorem set_last (I : List ILev) (x y : ILev) : (I ++ [x]).set I.length y = I ++ [y] := by
  rw [List.set_append_right _ _ (Nat.le_refl _), Nat.sub_self]
  rfl
theorem lev_end {base : Nat} {W : World} {g cap b : Nat} {I : List ILev} {F : Nat} {c : Int} (h : OwnK levK base W (.slice (some ⟨g, 0, none⟩) (I.length + 1) cap) (I ++ [⟨b, F, c⟩])) (y : Nat) : OwnK levK base (W.setCell ⟨g, I.length * 3 + 1, none⟩ (.int .i64 (y : Nat))) (.slice (some ⟨g, 0, none⟩) (I.length + 1) cap) (I ++ [⟨b, y, c⟩]) := by
  have h1 := ownK_storeC levKOk h I.length 1 ⟨b, y, c⟩ (.int .i64 (y : Nat)) (by simp) (by decide) (by
    have e : (I ++ [(⟨b, F, c⟩ : ILev)]).getD I.length default = ⟨b, F, c⟩ := by simp [List.getD_eq_getElem?_getD]
    rw [e]; rfl)
  rw [set_last] at h1
  exact h1
theorem lev_cells {base : Nat} {W : World} {g cap b : Nat} {I : List ILev} {F : Nat} {c : Int} (h : OwnK levK base W (.slice (some ⟨g, 0, none⟩) (I.length + 1) cap) (I ++ [⟨b, F, c⟩])) : W.cell? ⟨g, I.length * 3, none⟩ = some (.int .i64 (b : Nat)) ∧ W.cell? ⟨g, I.length * 3 + 1, none⟩ = some (.int .i64 (F : Nat)) ∧ W.cell? ⟨g, I.length * 3 + 2, none⟩ = some (.int .i64 c) := by
  have h1 := (h.rows levKOk).el I.length ⟨b, F, c⟩ (by simp)
  rw [Nat.zero_add] at h1
  exact ⟨h1 0 _ rfl, h1 1 _ rfl, h1 2 _ rfl⟩
theorem own_frozen {α : Type} {K : SK α} {base : Nat} {W : World} {g n cap : Nat} {l : List α} (h : OwnK K base W (.slice (some ⟨g, 0, none⟩) n cap) l) (j : Nat) : W.frozen? ⟨g, j, none⟩ = false := by
  rcases h.2 with ⟨h0, _⟩ | ⟨g', cap', cur, he, hb, hg, _⟩
  · cases h0
  · obtain ⟨e1, _, _⟩ := Value.slice.inj he
    cases e1
    exact Lib.frozen_of_heap hg j
set_option maxRecDepth 100000 in
set_option maxHeartbeats 2000000 in
theorem profile_any {S : Nat → Prop} {X : Nat} {l : List ICard} (w : World) (hN : IdxN S X l w) :
    Calls Tryz.prog 28 #[.pointer (some ⟨X, 0, none⟩)] w fun e w' => ∃ v, e = .returned v ∧ OwnK levK w.heap.size w' v (levsR (fun y : Nat => (cntY l (y : Int) : Int)) 2100) ∧ Below w.heap.size w w' := by
  have HN := Lib.hid hN
  have HCn : Hid (∀ (W : World) (y : Nat), y < 2100 → Below w.heap.size w W → Calls Tryz.prog 23 #[.pointer (some ⟨X, 0, none⟩), .int .i64 (y : Int)] W fun e w' => e = .returned (.int .i64 (cntY l (y : Int) : Int)) ∧ w' = W) := fun W y hy hb => by
    have h := count_any (y : Int) W (HN.out.below hb)
    rwa [countE_at l y hy] at h
  obtain ⟨F, hF⟩ : ∃ F : Nat → Int, F = fun y : Nat => (cntY l (y : Int) : Int) := ⟨_, rfl⟩
  have HCn : Hid (∀ (W : World) (y : Nat), y < 2100 → Below w.heap.size w W → Calls Tryz.prog 23 #[.pointer (some ⟨X, 0, none⟩), .int .i64 (y : Int)] W fun e w' => e = .returned (.int .i64 (F y)) ∧ w' = W) := by rw [hF]; exact HCn.out
  rw [← hF]
  have HC0 : Hid (Calls Tryz.prog 23 #[.pointer (some ⟨X, 0, none⟩), .int .i64 0] w fun e w' => e = .returned (.int .i64 (F 0)) ∧ w' = w) := HCn.out w 0 (by omega) (Below.refl _ _)
  clear hF hN
  obtain ⟨c0, hc0⟩ : ∃ c0, c0 = F 0 := ⟨_, rfl⟩
  rw [← hc0] at HC0
  have HL0 : Hid (LevI F 0 [] 0 c0) := by rw [hc0]; exact levI_zero F
  clear hc0
  obtain ⟨V, hV⟩ : ∃ V, V = w.alloc (.cells #[.int .i64 0, .int .i64 0, .int .i64 c0] 60) := ⟨_, rfl⟩
  have HB0 : Hid (Below w.heap.size w V) := by show Below _ _ _; rw [hV]; exact (Below.refl _ _).alloc (Nat.le_refl _) _
  have HO0 : Hid (OwnK levK w.heap.size V (.slice (some ⟨w.heap.size, 0, none⟩) 1 1) ([] ++ [⟨0, 0, c0⟩])) := by show OwnK _ _ _ _ _; rw [hV]; exact ownK_lit levKOk w [⟨0, 0, c0⟩] _ rfl (by simp)
  have HVe := Lib.hid hV
  clear hV
  go_enter Tryz.func28, Tryz.ntmps28
  go_wp2_with fail
  refine HC0.out.mono ?_
  rintro e w ⟨rfl, rfl⟩
  go_wp2
  rw [← HVe.out]
  clear HC0
  go_loopw [3, 13] (fun v i wr => ∃ (y : Nat) (I : List ILev) (b : Nat) (c : Int) (g tc : Nat), y ≤ 2100 ∧ i = .int .i64 y ∧ v = .slice (some ⟨g, 0, none⟩) (I.length + 1) tc ∧ Hid (LevI F y I b c) ∧ Hid (OwnK levK w.heap.size wr (.slice (some ⟨g, 0, none⟩) (I.length + 1) tc) (I ++ [⟨b, 0, c⟩])) ∧ Hid (Below w.heap.size w wr)) (fun _ i _ => 2100 - (intOf i).toNat)
  case atStart => exact ⟨0, [], 0, c0, w.heap.size, 1, by omega, rfl, rfl, HL0, HO0, HB0⟩
  case round =>
    obtain ⟨y, I, b, c, g, tc, hy, rfl, rfl, HL, HO, HB⟩ := hrel
    have hI := levI_len HL.out hy
    obtain ⟨n, hn⟩ : ∃ n, n = I.length := ⟨_, rfl⟩
    obtain ⟨p0, p1, p2⟩ := lev_cells HO.out
    have pf := own_frozen HO.out
    have hgb := World.ownsRow.lt HO.out g rfl
    have htc := (HO.out.rows levKOk).len.2
    rw [← hn] at p0 p1 p2 hI htc
    unfold maxLen at htc
    have hw1 : IntKind.i64.wrap (((n : Int) + 1) - 1) = (n : Int) := IntWalk.i64_in _ (by omega) |>.trans (by omega)
    have hw1' : wrap64 (((n : Int) + 1) - 1) = (n : Int) := (IntWalk.wrap64_in _ ⟨by omega, by omega⟩).trans (by omega)
    by_cases hlt : y < 2100
    · have yy : (y : Int) < 2100 := by omega
      have y0 : 0 ≤ (y : Int) := by omega
      have HC := Lib.hid (HCn.out wr y hlt HB.out)
      obtain ⟨z, hz⟩ : ∃ z, z = F y := ⟨_, rfl⟩
      rw [← hz] at HC
      have HZ := Lib.hid hz
      clear hz
      have n0 : 0 ≤ (n : Int) := by omega
      have n1 : (n : Int) < (n : Int) + 1 := by omega
      generalize hnn : I.length = nn at *
      have HNl := Lib.hid hnn
      clear hnn
      subst hn
      go_wp2_with fail
      refine HC.out.mono ?_
      rintro e wr ⟨rfl, rfl⟩
      by_cases hzc : z = c
      · subst hzc
        have HL2 := Lib.hid (levI_eq HL.out HZ.out.symm)
        clear hw1 hw1'
        go_wp2
        clear p0 p1 p2 pf
        go_roundw
        case rel => exact ⟨y + 1, I, b, z, g, tc, by omega, by go_num, by rw [HNl.out], HL2, by rw [HNl.out]; exact HO, HB⟩
        case measure => simp [intOf]; omega
      · have HL2 := Lib.hid (levI_ne HL.out (by rw [← HZ.out]; exact hzc))
        have HE : Hid (OwnK levK w.heap.size (wr.setCell ⟨g, n * 3 + 1, none⟩ (.int .i64 (y : Nat))) (.slice (some ⟨g, 0, none⟩) (n + 1) tc) (I ++ [⟨b, y, c⟩])) := by
          have h := HO.out
          rw [← HNl.out] at h ⊢
          exact lev_end h y
        have HBs : Hid (Below w.heap.size w (wr.setCell ⟨g, n * 3 + 1, none⟩ (.int .i64 (y : Nat)))) := HB.out.setCell (p := ⟨g, n * 3 + 1, none⟩) hgb.1 _
        have hze : (z != c) = true := by simpa using hzc
        have HLen : Hid ((I ++ [(⟨b, y, c⟩ : ILev)]).length + 1 < 1000000) := by show _ < _; rw [List.length_append, HNl.out]; simp; omega
        have hsz : w.heap.size ≤ wr.heap.size := HB.out.size
        obtain ⟨Ws, hWs⟩ : ∃ Ws, Ws = wr.setCell ⟨g, n * 3 + 1, none⟩ (.int .i64 (y : Nat)) := ⟨_, rfl⟩
        rw [← hWs] at HE HBs
        have hss : Ws.heap.size = wr.heap.size := by rw [hWs, World.size_setCell]
        have HA1 : Hid (OwnK levK w.heap.size (Ws.alloc (.cells #[.int .i64 (y : Nat), .int .i64 0, .int .i64 z] 60)) (.slice (some ⟨g, 0, none⟩) (n + 1) tc) (I ++ [⟨b, y, c⟩])) := HE.out.kept (World.grownBy_alloc _ _ none) (fun g h => by cases h)
        have HA2 : Hid (RowsAt levK (Ws.heap.size + 1) (Ws.alloc (.cells #[.int .i64 (y : Nat), .int .i64 0, .int .i64 z] 60)) (.slice (some ⟨wr.heap.size, 0, none⟩) 1 1) [⟨y, 0, z⟩]) := by
          have h := (ownK_lit levKOk Ws [⟨y, 0, z⟩] #[.int .i64 (y : Nat), .int .i64 0, .int .i64 z] rfl (by simp)).rows levKOk
          rw [World.size_alloc] at h
          rw [← hss]
          exact h
        have HA3 : Hid (w.heap.size ≤ (Ws.alloc (.cells #[.int .i64 (y : Nat), .int .i64 0, .int .i64 z] 60)).heap.size) := by show _ ≤ _; rw [World.size_alloc]; omega
        have HWse := Lib.hid hWs
        clear hw1 hw1' hzc hWs hss
        go_wp2_with (at_builtin; rw [← HWse.out]; refine append_K3 levKOk rfl _ _ rfl w.heap.size _ _ _ (I ++ [(⟨b, y, c⟩ : ILev)]) [(⟨y, 0, z⟩ : ILev)] rfl rfl HA1.out HA2.out HLen.out HA3.out ?_; intro v' w4 ho4 hg4 hr4)
        clear p0 p1 p2 pf
        have HB4 : Hid (Below w.heap.size w w4) := (HBs.out.alloc HBs.out.size _).grown hg4 HA3.out (fun j hj => (World.ownsRow.lt HA1.out j hj).1)
        have hl4 : (I ++ [(⟨b, y, c⟩ : ILev)] ++ [(⟨y, 0, z⟩ : ILev)]).length = (I ++ [(⟨b, y, c⟩ : ILev)]).length + 1 := by rw [List.length_append]; rfl
        obtain ⟨g4, c4, hv4, _, _, _, _⟩ := ho4.some (by rw [hl4]; omega)
        rw [hl4] at hv4
        subst hv4
        rw [← HZ.out] at HL2
        go_roundw
        case rel => exact ⟨y + 1, I ++ [⟨b, y, c⟩], y, z, g4, c4, by omega, by go_num, rfl, HL2, Lib.hid ho4, HB4⟩
        case measure => simp [intOf]; omega
    · obtain rfl : y = 2100 := by omega
      have yy : ¬ (((2100 : Nat) : Int) < 2100) := by omega
      generalize hnn : I.length = nn at *
      have HNl := Lib.hid hnn
      clear hnn
      subst hn
      have HE : Hid (OwnK levK w.heap.size (wr.setCell ⟨g, n * 3 + 1, none⟩ (.int .i64 2100)) (.slice (some ⟨g, 0, none⟩) (n + 1) tc) (levsR F 2100)) := by
        have h := HO.out
        rw [← HNl.out] at h ⊢
        rw [← levI_end HL.out]
        exact lev_end h 2100
      have HBs : Hid (Below w.heap.size w (wr.setCell ⟨g, n * 3 + 1, none⟩ (.int .i64 2100))) := HB.out.setCell (p := ⟨g, n * 3 + 1, none⟩) hgb.1 _
      have n0 : 0 ≤ (n : Int) := by omega
      have n1 : (n : Int) < (n : Int) + 1 := by omega
      clear hlt
      go_wp2
      go_ret
      exact ⟨_, rfl, HE.out, HBs.out⟩
end Go.Proofs.YtcgopilkajfghaaGreatDoor
