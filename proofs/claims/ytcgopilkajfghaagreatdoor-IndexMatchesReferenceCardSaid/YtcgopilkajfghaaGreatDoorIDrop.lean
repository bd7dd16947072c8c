/- Drop of an index. -/
import Derived.Test.YtcgopilkajfghaaGreatDoorIPut
set_option linter.unusedVariables false
set_option linter.unusedSimpArgs false
namespace Go.Proofs.YtcgopilkajfghaaGreatDoor
open Go.RowKit Go.Shelf
open Go.Maps (Keyed IsMap Tidy)

set_option maxRecDepth 100000 in
set_option maxHeartbeats 4000000 in
theorem drop_any {S : Nat → Prop} {X : Nat} {l : List ICard} (id : Int) (w : World) (hN : IdxN S X l w) (hi : inI id) :
    Calls Tryz.prog 12 #[.pointer (some ⟨X, 0, none⟩), .int .i64 id] w fun e w' => e = .returned (.int .i64 (dropL l id).2) ∧ ∃ S', IdxN S' X (dropL l id).1 w' ∧ Turn S w w' ∧ ∀ k, S' k → S k ∨ w.heap.size ≤ k := by
  obtain ⟨m, ov, T, D, h⟩ := hN
  have HIw := Lib.hid h
  have c0 := h.c0
  have hlk := h.look hi
  cases hf : findC l id with
  | none =>
    have HP : Hid (dropL l id = (l, 420)) := by show _ = _; unfold dropL; rw [hf]
    rw [hf] at hlk
    have hlk : (Instr.lookup 74 (.map (some m)) (.int .i64 id) true).run Tryz.prog w = .ok (.tuple #[cardV cardZ, .bool false]) w := hlk
    have HB : Hid (Below w.heap.size w (w.alloc (.cells (cardR cardZ) 35))) := (Below.refl _ _).alloc (Nat.le_refl _) _
    clear hf h
    go_enter Tryz.func12, Tryz.ntmps12
    go_wp2
    go_ret
    rw [HP.out]
    exact ⟨rfl, S, ⟨_, _, _, _, HIw.out.turn (R := fun _ => False) (Turn.of_below HB.out) (fun _ _ h => h)⟩, Turn.of_below HB.out, fun k hk => .inl hk⟩
  | some c =>
    have HP : Hid (dropL l id = (delC l c, 0)) := by show _ = _; unfold dropL; rw [hf]
    obtain ⟨hmem, hid⟩ := findC_some hf
    subst hid
    rw [hf] at hlk
    have hlk : (Instr.lookup 74 (.map (some m)) (.int .i64 c.id) true).run Tryz.prog w = .ok (.tuple #[cardV c, .bool true]) w := hlk
    have HInI := Lib.hid hi
    have HMem := Lib.hid hmem
    obtain ⟨g, oc, hov, _, hgw, hlc, hcm⟩ := h.order.some (List.length_pos_of_mem hmem)
    subst hov
    obtain ⟨V, hV⟩ : ∃ V, V = w.alloc (.cells (cardR c) 35) := ⟨_, rfl⟩
    have HB : Hid (Below w.heap.size w V) := by show Below _ _ _; rw [hV]; exact (Below.refl _ _).alloc (Nat.le_refl _) _
    have HIV : Hid (IdxAt S X l m (.slice (some ⟨g, 0, none⟩) l.length oc) T D V) := HIw.out.turn (R := fun _ => False) (Turn.of_below HB.out) (fun _ _ h => h)
    have HCV : Hid (CardN w.heap.size c V) := by show BoxN _ _ _ _; rw [hV]; exact box_new w _ _
    have k0 := HIV.out.c0
    obtain ⟨Wd, hrun, hown, hturn⟩ := HIV.out.map.drop keyed_int Tryz.underlying74 (keyOf_int hi) 0
    have hgm : V.grownBy Wd (some m) := hturn.grown
    have hmX : m ≠ X := map_ne_box HIV.out.map HIV.out.box
    have HX6 := Lib.hid (BoxN.grown HIV.out.box hgm (fun e => hmX (Option.some.inj e)))
    have hgm' : (Value.slice (some ⟨g, 0, none⟩) l.length oc).ownBlock ≠ some m := map_ne_row HIV.out.map HIV.out.order
    have HO6 := Lib.hid (HIV.out.order.kept hgm (fun g' e he => by cases e; exact hgm' he))
    have hdat := mapOk_del HIV.out.dat HIV.out.ok hmem
    have HM6 : Hid (Wd.ownsMap Tryz.prog 3 cardElem m (delC l c).length (D.del (.int .i64 c.id))) := by show World.ownsMap _ _ _ _ _ _ _; rw [← hdat.size]; exact ownsMap_size hown
    have HD6 := Lib.hid hdat
    have hmw := HIw.out.lt m HIw.out.sm
    have hXw := HIw.out.lt X HIw.out.sx
    have HC6 : Hid (CardN w.heap.size c Wd) := BoxN.grown HCV.out hgm (fun e => by have := Option.some.inj e; omega)
    have HT6 : Hid (Turn S w Wd) := (Turn.of_below HB.out : Turn S w V).trans (Turn.of_grown (S := fun k => k = m) hgm (fun g e => (Option.some.inj e).symm)) (fun k hk => by cases hk; exact .inl HIw.out.sm)
    have HmX := Lib.hid hmX
    have HgX : Hid (some g ≠ some X) := row_ne_box HIV.out.order HIV.out.box (by decide)
    have Hgm : Hid (some g ≠ some m) := hgm'
    have Hgc : Hid (some g ≠ some w.heap.size) := fun e => by have := Option.some.inj e; omega
    have HcbX : Hid (w.heap.size ≠ X) := by show _ ≠ _; omega
    have HIo : Hid (IOk l) := HIw.out.ok
    have HGS : Hid (S g) := HIw.out.so g rfl
    have HDel : Hid (∀ W (pl : Nat), pl < l.length → OwnK cardK 0 W (.slice (some ⟨g, 0, none⟩) l.length oc) l → Calls Tryz.prog 47 #[.slice (some ⟨g, 0, none⟩) l.length oc, .int .i64 pl, .int .i64 ((pl : Int) + 1)] W fun e w' => ∃ v', e = .returned v' ∧ OwnK cardK 0 w' v' (l.take pl ++ l.drop (pl + 1)) ∧ W.grownBy w' (some g) ∧ v'.ownBlock = some g) := fun W pl hp ho => delete_any g oc l pl 0 W ho hp (by have := HIo.out.few; omega)
    rw [hV] at k0 hrun
    clear hf h hmem hV hi hlc hown hturn hgm hmX hgm' hdat hmw hXw HIV HCV HB
    generalize hn : l.length = n at *
    have HN := Lib.hid hn
    clear hn
    go_enter Tryz.func12, Tryz.ntmps12
    go_wp2
    clear hrun k0 hlk c0
    obtain ⟨pl, hpl⟩ : ∃ p, p = placeC l c := ⟨_, rfl⟩
    have HPl := Lib.hid hpl
    have hpn : pl < n := by rw [hpl, ← HN.out]; exact (place_at HIo.out HMem.out).1
    have hn5 : n ≤ 500 := by rw [← HN.out]; exact HIo.out.few
    clear hpl
    have HQ : Hid (∀ W, Wd.grownBy W none → W.cell? ⟨w.heap.size, 0, none⟩ = some (.int .i64 c.id) ∧ W.cell? ⟨w.heap.size, 1, none⟩ = some (.int .i64 c.unit) ∧ W.cell? ⟨w.heap.size, 2, none⟩ = some (.int .i64 c.kind) ∧ W.cell? ⟨w.heap.size, 3, none⟩ = some (.int .i64 c.beg) ∧ W.cell? ⟨w.heap.size, 4, none⟩ = some (.int .i64 c.fin)) := fun W hW =>
      CardN.cells (BoxN.grown HC6.out hW (by simp))
    refine wp_region_calm ⟨[4], fun _ v _ => v = .int .i64 pl, fun _ => [], 99, none, 1000⟩ (by kernel_rfl) (by kernel_rfl) (by kernel_rfl) (fun g h => by cases h) (fun k hk v W W' r h hg hc => h) ?_
    iterate 4 (refine calm_quiet (v := ?_) (by rfl) (by rfl) (fun W hW hD => ?_) ?_; rotate_left; (· (obtain ⟨z0, z1, z2, z3, z4⟩ := HQ.out W hW; clear hD hW; go_simp; try with_reducible rfl)); simp only [Act.put, List.setIfInBounds_toArray, List.set_cons_zero, List.set_cons_succ, Nat.reduceAdd, Nat.zero_add])
    refine calm_makes (by rfl) (by rfl) (fun W hW hD Kc hK => ?_) (fun v32 => ?_)
    · have hWn : Wd.grownBy W none := hW
      refine wp_of_call (f := 45) ?_ ((place_any c W (BoxN.grown HX6.out hWn (by simp)) (HO6.out.kept hWn (fun g h => by cases h)) HIo.out).mono ?_)
      · clear hD hW hK hWn
        go_simp
      · rintro e w7 ⟨rfl, hb7⟩
        exact ⟨_, rfl, hK _ _ (made_plain (by rw [← HPl.out]; rfl) hb7 rfl)⟩
    simp only [Act.put, List.setIfInBounds_toArray, List.set_cons_zero, List.set_cons_succ, Nat.reduceAdd, Nat.zero_add]
    refine calm_quiet (v := v32) (by rfl) (by rfl) (fun W hW hD => ?_) ?_
    · clear hD hW
      go_simp
    simp only [Act.put, List.setIfInBounds_toArray, List.set_cons_zero, List.set_cons_succ, Nat.reduceAdd, Nat.zero_add]
    refine calm_nil fun W hW hF => ?_
    obtain rfl : v32 = .int .i64 pl := hF 4 (by kernel_rfl) (by kernel_rfl)
    clear hF HQ
    have HXW := Lib.hid (BoxN.grown HX6.out hW (by simp))
    have HOW := Lib.hid (HO6.out.kept hW (fun g h => by cases h))
    have HMW := Lib.hid (HM6.out.kept hW (by simp))
    have HCW : Hid (CardN w.heap.size c W) := BoxN.grown HC6.out hW (by simp)
    have HTW := Lib.hid (HT6.out.trans (Turn.of_grown (S := fun _ => False) hW (fun _ e => by cases e)) (fun _ h => h.elim))
    clear hW HX6 HO6 HM6 HC6 HT6
    have c1 := BoxN.cell HXW.out 1 _ idxC_1
    have w1 : IntKind.i64.wrap ((pl : Int) + 1) = (pl : Int) + 1 := IntWalk.i64_in _ (by omega)
    go_wp2_with fail
    clear w1 c1
    refine (HDel.out W pl hpn HOW.out).mono ?_
    rintro e w7 ⟨v', rfl, ho7, hg7, hb7⟩
    rw [HPl.out] at ho7
    have ho7 : OwnK cardK 0 w7 v' (delC l c) := ho7
    obtain ⟨xa, xc, hv7, _, _⟩ := ho7.shape
    subst hv7
    generalize hn7 : (delC l c).length = n7 at *
    have HN7 := Lib.hid hn7
    clear hn7
    have hX := BoxN.grown HXW.out hg7 HgX.out
    obtain ⟨V7, hV7⟩ : ∃ V7, V7 = w7.setCell ⟨X, 1, none⟩ (.slice xa n7 xc) := ⟨_, rfl⟩
    have HX7 : Hid (BoxN X 81 (idxC m (.slice xa n7 xc) T) V7) := by show BoxN _ _ _ _; rw [hV7, ← idxC_set1 (ov := .slice (some ⟨g, 0, none⟩) n oc)]; exact hX.set 1 _
    have HnX : Hid ((Value.slice xa n7 xc).ownBlock ≠ some X) := by show _ ≠ _; rw [hb7]; exact HgX.out
    have HO7 : Hid (OwnK cardK 0 V7 (.slice xa n7 xc) (delC l c)) := by show OwnK _ _ _ _ _; rw [hV7]; exact ho7.setOther HnX.out 1 _
    have HM7 : Hid (V7.ownsMap Tryz.prog 3 cardElem m n7 (D.del (.int .i64 c.id))) := by show World.ownsMap _ _ _ _ _ _ _; rw [hV7]; exact (HMW.out.kept hg7 (fun e => Hgm.out e.symm)).setCell (a := ⟨X, 1, none⟩) HmX.out _
    have HC7 : Hid (CardN w.heap.size c V7) := by show CardN _ _ _; rw [hV7]; exact BoxN.other (BoxN.grown HCW.out hg7 Hgc.out) HcbX.out
    have HT7 : Hid (Turn S w V7) := by show Turn _ _ _; rw [hV7]; exact (HTW.out.trans (Turn.of_grown (S := fun k => k = g) hg7 (fun g e => (Option.some.inj e).symm)) (fun k hk => by cases hk; exact .inl HGS.out)).setCell (.inl HIw.out.sx) 1 _
    have HB7 := Lib.hid hb7
    have c1 := BoxN.cell hX 1 _ idxC_1
    have cf := BoxN.frozen hX
    have HVe := Lib.hid hV7
    clear hg7 hX hV7 ho7 hb7 HXW HOW HMW HCW HTW
    go_wp2_with fail
    rw [← HVe.out]
    clear c1 cf HVe
    have hval := validC_ok (HIo.out.valid c HMem.out)
    obtain ⟨T1, hT1⟩ : ∃ T1, T1 = addT T (-1) 2101 2101 (c.beg.toNat + 1) := ⟨_, rfl⟩
    obtain ⟨T2, hT2⟩ : ∃ T2, T2 = addT T1 1 2101 2101 (c.fin.toNat + 1) := ⟨_, rfl⟩
    have HA1 : Hid (∀ W, BoxN X 81 (idxC m (.slice xa n7 xc) T) W → Calls Tryz.prog 46 #[.pointer (some ⟨X, 2, none⟩), .int .i64 c.beg, .int .i64 (-1)] W fun e w' => e = .returned (.tuple #[]) ∧ BoxN X 81 (idxC m (.slice xa n7 xc) T1) w' ∧ W.grownBy w' (some X)) := fun W hX => by
      rw [hT1]
      exact sumAdd_int X m _ T c.beg (-1) W (by omega) (by omega) (fun k hk => by have := tree_small HIw.out.tree HIo.out.few hk; omega) hX
    have HA2 : Hid (∀ W, BoxN X 81 (idxC m (.slice xa n7 xc) T1) W → Calls Tryz.prog 46 #[.pointer (some ⟨X, 2, none⟩), .int .i64 c.fin, .int .i64 1] W fun e w' => e = .returned (.tuple #[]) ∧ BoxN X 81 (idxC m (.slice xa n7 xc) T2) w' ∧ W.grownBy w' (some X)) := fun W hX => by
      rw [hT2]
      exact sumAdd_int X m _ T1 c.fin 1 W (by omega) (by omega) (fun k hk => by rw [hT1]; have := tree_small1 HIw.out.tree HIo.out.few (-1) (by omega) (c.beg.toNat + 1) (by omega) hk; omega) hX
    have HTr : Hid (TreeOk T2 (delC l c)) := by
      show TreeOk _ _
      rw [hT2, hT1]
      exact tree_drop (a := l.take (placeC l c)) (b := l.drop (placeC l c + 1)) (c := c) (by omega) (by omega) (by rw [← delC_split HIo.out HMem.out]; exact HIw.out.tree) 2101 2101 (by omega) (by omega)
    clear hT1 hT2 hval
    have HQ : Hid (∀ W, V7.grownBy W none → W.cell? ⟨w.heap.size, 0, none⟩ = some (.int .i64 c.id) ∧ W.cell? ⟨w.heap.size, 1, none⟩ = some (.int .i64 c.unit) ∧ W.cell? ⟨w.heap.size, 2, none⟩ = some (.int .i64 c.kind) ∧ W.cell? ⟨w.heap.size, 3, none⟩ = some (.int .i64 c.beg) ∧ W.cell? ⟨w.heap.size, 4, none⟩ = some (.int .i64 c.fin)) := fun W hW =>
      CardN.cells (BoxN.grown HC7.out hW (by simp))
    refine wp_region_calm ⟨[], fun _ _ _ => True, fun _ => [], 99, none, 6⟩ (by kernel_rfl) (by kernel_rfl) (by kernel_rfl) (fun g h => by cases h) (fun k hk v W W' r h hg hc => trivial) ?_
    iterate 6 (refine calm_quiet (v := ?_) (by rfl) (by rfl) (fun W hW hD => ?_) ?_; rotate_left; (· (obtain ⟨z0, z1, z2, z3, z4⟩ := HQ.out W hW; clear hD hW; go_simp; try with_reducible rfl)); simp only [Act.put, List.setIfInBounds_toArray, List.set_cons_zero, List.set_cons_succ, Nat.reduceAdd, Nat.zero_add])
    refine calm_tail (by rfl) fun W hW hF => ?_
    clear hF
    go_wp2_with fail
    refine (HA1.out W (BoxN.grown HX7.out hW (by simp))).mono ?_
    rintro e w8 ⟨rfl, hbx, hgx⟩
    have HX8 := Lib.hid hbx
    have HO8 := Lib.hid ((HO7.out.kept hW (fun g h => by cases h)).kept hgx (fun g h e => by cases h; exact HnX.out e))
    have HM8 := Lib.hid ((HM7.out.kept hW (by simp)).kept hgx (fun e => HmX.out (Option.some.inj e)))
    have HC8 : Hid (CardN w.heap.size c w8) := BoxN.grown (BoxN.grown HC7.out hW (by simp)) hgx (fun e => HcbX.out (Option.some.inj e).symm)
    have HT8 : Hid (Turn S w w8) := (HT7.out.trans (Turn.of_grown (S := fun _ => False) hW (fun _ e => by cases e)) (fun _ h => h.elim)).trans (Turn.of_grown (S := fun k => k = X) hgx (fun g e => (Option.some.inj e).symm)) (fun k hk => by cases hk; exact .inl HIw.out.sx)
    clear hW hbx hgx HQ HX7 HO7 HM7 HC7 HT7 HA1
    go_wp2
    have HQ : Hid (∀ W, w8.grownBy W none → W.cell? ⟨w.heap.size, 0, none⟩ = some (.int .i64 c.id) ∧ W.cell? ⟨w.heap.size, 1, none⟩ = some (.int .i64 c.unit) ∧ W.cell? ⟨w.heap.size, 2, none⟩ = some (.int .i64 c.kind) ∧ W.cell? ⟨w.heap.size, 3, none⟩ = some (.int .i64 c.beg) ∧ W.cell? ⟨w.heap.size, 4, none⟩ = some (.int .i64 c.fin)) := fun W hW =>
      CardN.cells (BoxN.grown HC8.out hW (by simp))
    refine wp_region_calm ⟨[], fun _ _ _ => True, fun _ => [], 99, none, 6⟩ (by kernel_rfl) (by kernel_rfl) (by kernel_rfl) (fun g h => by cases h) (fun k hk v W W' r h hg hc => trivial) ?_
    iterate 6 (refine calm_quiet (v := ?_) (by rfl) (by rfl) (fun W hW hD => ?_) ?_; rotate_left; (· (obtain ⟨z0, z1, z2, z3, z4⟩ := HQ.out W hW; clear hD hW; go_simp; try with_reducible rfl)); simp only [Act.put, List.setIfInBounds_toArray, List.set_cons_zero, List.set_cons_succ, Nat.reduceAdd, Nat.zero_add])
    refine calm_tail (by rfl) fun W hW hF => ?_
    clear hF
    go_wp2_with fail
    refine (HA2.out W (BoxN.grown HX8.out hW (by simp))).mono ?_
    rintro e w9 ⟨rfl, hbx, hgx⟩
    have HX9 := Lib.hid hbx
    have HO9 := Lib.hid ((HO8.out.kept hW (fun g h => by cases h)).kept hgx (fun g h e => by cases h; exact HnX.out e))
    have HM9 := Lib.hid ((HM8.out.kept hW (by simp)).kept hgx (fun e => HmX.out (Option.some.inj e)))
    have HC9 : Hid (CardN w.heap.size c w9) := BoxN.grown (BoxN.grown HC8.out hW (by simp)) hgx (fun e => HcbX.out (Option.some.inj e).symm)
    have HT9 : Hid (Turn S w w9) := (HT8.out.trans (Turn.of_grown (S := fun _ => False) hW (fun _ e => by cases e)) (fun _ h => h.elim)).trans (Turn.of_grown (S := fun k => k = X) hgx (fun g e => (Option.some.inj e).symm)) (fun k hk => by cases hk; exact .inl HIw.out.sx)
    clear hW hbx hgx HQ HX8 HO8 HM8 HC8 HT8 HA2
    go_wp2
    go_ret
    rw [HP.out]
    have hid := HN7.out
    subst hid
    refine ⟨rfl, S, ⟨m, _, T2, _, ⟨HX9.out, HM9.out, HO9.out, HD6.out, HTr.out, delC_ok HIo.out HMem.out, HIw.out.sx, HIw.out.sm, fun g' hg => by rw [HB7.out] at hg; cases hg; exact HGS.out, fun k hk => Nat.lt_of_lt_of_le (HIw.out.lt k hk) HT9.out.size⟩⟩, HT9.out, fun k hk => .inl hk⟩
end Go.Proofs.YtcgopilkajfghaaGreatDoor
