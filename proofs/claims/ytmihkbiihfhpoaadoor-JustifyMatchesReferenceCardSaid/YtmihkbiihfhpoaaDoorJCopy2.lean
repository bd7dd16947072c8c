/- The reference's Copy, once more: no two rules share a row. -/
import Derived.Test.YtmihkbiihfhpoaaDoorJCopy
namespace Go.Proofs.YtmihkbiihfhpoaaDoor
open Go.RowKit Go.Shelf

/-- What the operations of a round of Copy leave. -/
def CopyF2 (H base : Nat) (rv : Value) (cs : List (Value × JRule)) (r : JRule) : Nat → Value → World → Prop
  | 1, v, W => v = rv ∧ RowR base W rv cs ∧ ∀ c ∈ cs, ∀ g, c.1.ownBlock = some g → g < H
  | 2, v, W => OwnI H W v []
  | 9, v, W => OwnI H W v r.needs
  | 17, v, W => ∃ nv g, v = .slice (some ⟨g, 0, none⟩) 1 1 ∧ W.heap[g]? = some (.cells #[nv, .int .i64 r.gives] 48 (0, 0)) ∧ OwnI H W nv r.needs
  | _, v, W => ∃ nv : Value, (∀ g, nv.ownBlock = some g → H ≤ g) ∧ RowR base W v (cs ++ [(nv, r)])
/-- No two rules have their needs in one row. -/
def Apart (cs : List (Value × JRule)) : Prop := cs.Pairwise fun a b => ∀ g, a.1.ownBlock = some g → b.1.ownBlock ≠ some g
theorem Apart.add {cs : List (Value × JRule)} (h : Apart cs) {H : Nat} (h1 : ∀ c ∈ cs, ∀ g, c.1.ownBlock = some g → g < H) {nv : Value} (h2 : ∀ g, nv.ownBlock = some g → H ≤ g) (r : JRule) : Apart (cs ++ [(nv, r)]) := by
  refine List.pairwise_append.2 ⟨h, List.pairwise_singleton .., fun a ha b hb g hg he => ?_⟩
  obtain rfl : b = (nv, r) := by simpa using hb
  have := h1 a ha g hg
  have := h2 g he
  omega
/-- The facts are kept. -/
theorem copyF2_kept {ops : Array Oper} {w : World} {base k : Nat} {rv : Value} {cs : List (Value × JRule)} {r : JRule} {sp : List Nat} {v : Value} {W W' : World} {c : Option Nat} (hr17 : reachB ops 6 17 9 = true) (hr18 : reachB ops 6 18 9 = true) (hrv : ∀ g, rv.ownBlock = some g → g < w.heap.size) (hk : ([1, 2, 9, 17, 18] : List Nat).contains k = true)
    (h : CopyF2 w.heap.size base rv cs r k v W) (hg : W.grownBy W' c) (hc : Far ops ⟨sp, CopyF2 w.heap.size base rv cs r, fun k => if k = 9 then [2] else if k = 18 then [1] else [], 1, rv.ownBlock, 20⟩ w k v W c) : CopyF2 w.heap.size base rv cs r k v W' := by
  have h1 : ∀ g, c = some g → v.ownBlock ≠ some g := fun g hh => (hc g hh).1
  unfold CopyF2 at h ⊢
  split at h
  · obtain ⟨rfl, h2, h3⟩ := h
    refine ⟨rfl, h2.kept hg h1 fun x hx g hh he => ?_, h3⟩
    obtain ⟨n1, _, i, j, u, hd, hik, hre, hu, hF⟩ := hc g hh
    have hlt := h3 x hx g he
    simp only at hd
    split at hd
    · obtain rfl : j = 2 := by simpa using hd
      have := (World.ownsRow.lt (show OwnI w.heap.size W u [] from hF) g hu).1
      omega
    · split at hd
      · obtain rfl : j = 1 := by simpa using hd
        obtain ⟨rfl, _, _⟩ := (show _ ∧ _ ∧ _ from hF)
        exact n1 hu
      · simp at hd
  · exact rowI_kept h hg h1
  · exact rowI_kept h hg h1
  · obtain ⟨nv, g0, rfl, hb, hn⟩ := h
    refine ⟨nv, g0, rfl, ?_, rowI_kept hn hg fun g hh he => ?_⟩
    · rw [hg.block g0 (Array.getElem?_eq_some_iff.1 hb).1 (fun e => h1 g0 e.symm rfl)]
      exact hb
    · obtain ⟨n1, _, i, j, u, hd, hik, hre, hu, hF⟩ := hc g hh
      simp only at hd
      split at hd
      · rename_i h9
        rw [h9, hr17] at hre; cases hre
      · split at hd
        · obtain rfl : j = 1 := by simpa using hd
          obtain ⟨rfl, _, _⟩ := (show _ ∧ _ ∧ _ from hF)
          have := hrv g hu
          have := (World.ownsRow.lt hn g he).1
          omega
        · simp at hd
  · obtain ⟨nv, hn0, hn⟩ := h
    rename_i n1 n2 n9 n17
    obtain rfl : k = 18 := by
      rcases (by simpa using hk : k = 1 ∨ k = 2 ∨ k = 9 ∨ k = 17 ∨ k = 18) with h | h | h | h | h
      · exact (n1 h).elim
      · exact (n2 h).elim
      · exact (n9 h).elim
      · exact (n17 h).elim
      · exact h
    cases c with
    | none => exact ⟨nv, hn0, hn.kept hg (fun g hh => by cases hh) (fun x hx g hh => by cases hh)⟩
    | some g =>
      obtain ⟨_, _, i, j, u, hd, hik, hre, _, _⟩ := hc g rfl
      simp only at hd
      split at hd
      · rename_i h9
        rw [h9, hr18] at hre; cases hre
      · simp [hik] at hd
set_option maxRecDepth 100000 in
set_option maxHeartbeats 4000000 in
theorem copy2_any (s d : Int) (rv : Value) (rs : List JRule) (w : World) (hR : RulesAt w.heap.size w rv rs) (hl : rs.length ≤ 100) (hn : ∀ r ∈ rs, r.needs.length ≤ 1000) :
    Calls Tryd.prog 35 #[thV s d rv] w fun e w' => ∃ rv' cs, e = .returned (thV s d rv') ∧ RowR w.heap.size w' rv' cs ∧ cs.map (·.2) = rs ∧ Apart cs ∧ Below w.heap.size w w' := by
  obtain ⟨ra, rc, rfl, hrc, hrm⟩ := hR.shape
  unfold maxLen at hrm
  have HR := Lib.hid hR
  have HN := Lib.hid hn
  clear hR hn
  generalize hm : rs.length = m at *
  have Hm := Lib.hid hm
  clear hm
  go_enter Tryd.func35, Tryd.ntmps35
  go_wp2
  obtain ⟨W0, hW0⟩ : ∃ W0, W0 = ((w.alloc (.cells #[.int .i64 s, .int .i64 d, .slice ra m rc] 25)).alloc (.cells #[.int .i64 0, .int .i64 0, .slice none 0 0] 25)).alloc (.cells #[.int .i64 s, .int .i64 d, .slice none 0 0] 25) := ⟨_, rfl⟩
  have hb0 : Below w.heap.size w W0 := by rw [hW0]; exact (((Below.refl _ _).alloc (Nat.le_refl _) _).alloc (by simp) _).alloc (by simp; omega) _
  have hsz0 : W0.heap.size = w.heap.size + 3 := by rw [hW0]; simp
  have hS0 : ThBox W0 w.heap.size s d (.slice ra m rc) := by rw [hW0]; exact (ThBox.new w s d (.slice ra m rc)).below (((Below.refl (w.heap.size + 1) _).alloc (by simp) _).alloc (by simp) _) (by omega)
  have hR0 : ThBox W0 (w.heap.size + 1) 0 0 (.slice none 0 0) := by
    rw [hW0]
    have := ThBox.new (w.alloc (.cells #[.int .i64 s, .int .i64 d, .slice ra m rc] 25)) 0 0 (.slice none 0 0)
    rw [World.size_alloc] at this
    exact this.below ((Below.refl (w.heap.size + 2) _).alloc (by simp) _) (by omega)
  have hT0 : ThBox W0 (w.heap.size + 2) s d (.slice none 0 0) := by
    rw [hW0]
    have := ThBox.new ((w.alloc (.cells #[.int .i64 s, .int .i64 d, .slice ra m rc] 25)).alloc (.cells #[.int .i64 0, .int .i64 0, .slice none 0 0] 25)) s d (.slice none 0 0)
    rwa [World.size_alloc, World.size_alloc] at this
  rw [← hW0]
  simp only [Nat.add_assoc, Nat.reduceAdd]
  clear hW0
  go_loopw [4] (fun i wr => ∃ (j : Nat) (rv : Value) (cs : List (Value × JRule)), j ≤ m ∧ i = .int .i64 j ∧ MadeI w (w.heap.size + 1) (w.heap.size + 2) (w.heap.size + 3) s d cs rv wr ∧ ThBox wr w.heap.size s d (.slice ra m rc) ∧ Hid (cs.map (·.2) = rs.take j) ∧ Hid (Apart cs)) (fun i _ => m - (intOf i).toNat)
  case atStart => exact ⟨0, _, [], Nat.zero_le _, rfl, ⟨RowR.nil _ _, hT0, hR0, hb0, by omega⟩, hS0, rfl, List.Pairwise.nil⟩
  case round =>
    obtain ⟨j, rv, cs, hj, rfl, hM, hS, HCs, HAp⟩ := hrel
    have HM := Lib.hid hM
    obtain ⟨hRow, hTh, hR, hB, hsz⟩ := hM
    have HTh := Lib.hid hTh
    have HRow := Lib.hid hRow
    have HRR := Lib.hid hR
    obtain ⟨va, vc, hrv⟩ := hRow.shape
    subst hrv
    have HB := Lib.hid hB
    have HS := Lib.hid hS
    have q0 := hS.c2
    have q1 := hTh.c2
    clear hR hTh hRow hb0 hT0 hB hS hS0 hR0
    by_cases hlt : j < m
    · have hlen : cs.length < 1000 := by have := congrArg List.length HCs.out; simp at this; omega
      obtain ⟨b, off, nv, hae, hbl, c1, c2, c3⟩ := HR.out.at j (by rw [Hm.out]; exact hlt)
      subst hae
      have HMem : Hid (rs.getD j default ∈ rs) := getD_mem _ _ _ (by rw [Hm.out]; exact hlt)
      have hnl := HN.out _ HMem.out
      have HTk := Lib.hid (take_getRule rs default j (by rw [Hm.out]; exact hlt))
      generalize rs.getD j default = r at *
      have HNv := Lib.hid (c3.below HB.out (Nat.le_refl _))
      have q2 := (HB.out.cell (p := ⟨b, off + j * 2, none⟩) hbl).trans c1
      have q3 := (HB.out.cell (p := ⟨b, off + j * 2 + 1, none⟩) hbl).trans c2
      obtain ⟨na, nc, hnv, _, _⟩ := c3.shape
      subst hnv
      have jj : (j : Int) < (m : Int) := by omega
      have j0 : 0 ≤ (j : Int) := by omega
      clear c1 c2 c3
      have hne0 : some w.heap.size ≠ (Value.slice va cs.length vc).ownBlock := fun h => by have := (World.ownsRow.lt HRow.out.1 _ h.symm).1; omega
      have hne1 : some (w.heap.size + 2) ≠ (Value.slice va cs.length vc).ownBlock := fun h => by have := (World.ownsRow.lt HRow.out.1 _ h.symm).1; omega
      have hne2 : some b ≠ (Value.slice va cs.length vc).ownBlock := fun h => by have := (World.ownsRow.lt HRow.out.1 _ h.symm).1; omega
      have HQ : Hid (∀ W, wr.grownBy W (Value.slice va cs.length vc).ownBlock → W.cell? ⟨w.heap.size, 2, none⟩ = some (.slice (some ⟨b, off, none⟩) m rc) ∧ W.cell? ⟨w.heap.size + 2, 2, none⟩ = some (.slice va cs.length vc) ∧ W.cell? ⟨b, off + j * 2, none⟩ = some (.slice na r.needs.length nc) ∧ W.cell? ⟨b, off + j * 2 + 1, none⟩ = some (.int .i64 r.gives)) := fun W hW => ⟨hW.cell q0 hne0, hW.cell q1 hne1, hW.cell q2 hne2, hW.cell q3 hne2⟩
      clear hne0 hne1 hne2 q2 q3
      go_wp2
      have HBd : Hid (∀ c ∈ cs, ∀ g, c.1.ownBlock = some g → g < wr.heap.size) := fun c hc g hg => (World.ownsRow.lt (HRow.out.2 c hc) g hg).2
      have HLt : Hid (∀ g, (Value.slice va cs.length vc).ownBlock = some g → w.heap.size + 3 ≤ g ∧ g < wr.heap.size) := World.ownsRow.lt HRow.out.1
      have HQ1 := Lib.hid q1
      have HWb : Hid (∀ W, wr.grownBy W (Value.slice va cs.length vc).ownBlock → Below (w.heap.size + 3) wr W) := fun W hW => (Below.refl _ _).grown hW hsz (fun k hk => (HLt.out k hk).1)
      clear q0 q1
      refine wp_region_calm ⟨[1, 2, 9, 17, 18], CopyF2 wr.heap.size (w.heap.size + 3) (.slice va cs.length vc) cs r, fun k => if k = 9 then [2] else if k = 18 then [1] else [], 1, (Value.slice va cs.length vc).ownBlock, 20⟩ (by kernel_rfl) (by kernel_rfl) (by kernel_rfl) (fun g h => (HLt.out g h).2) (fun k hk v W W' c h hg hc => copyF2_kept (by kernel_rfl) (by kernel_rfl) (fun g h => (HLt.out g h).2) hk h hg hc) ?_
      iterate 1 (refine calm_quiet (v := ?_) (by rfl) (by rfl) (fun W hW hD => ?_) ?_; rotate_left; (· (obtain ⟨z0, z1, z2, z3⟩ := HQ.out W hW; clear hD hW; go_simp; try with_reducible rfl)); simp only [Act.put, List.setIfInBounds_toArray, List.set_cons_zero, List.set_cons_succ, Nat.reduceAdd, Nat.zero_add])
      refine calm_makes (by rfl) (by rfl) (fun W hW hD K hK => ?_) (fun v18 => ?_)
      · have hWn : wr.grownBy W none := hW
        have z1 := grown_cell0 hWn HQ1.out
        refine wp_of_run (v := .slice va cs.length vc) (w' := W) ?_ (hK _ _ ⟨⟨rfl, HRow.out.below (grown_below hWn) (Nat.le_refl _), HBd.out⟩, ⟨none, ⟨rfl, rfl, rfl, Nat.le_refl _, fun _ _ _ => rfl⟩, .inl rfl⟩, fun g hg => ⟨Nat.lt_of_lt_of_le (HLt.out g hg).2 hWn.size, .inr (.inr ⟨rfl, hg⟩)⟩⟩)
        clear hD hW hK hWn
        go_simp
      simp only [Act.put, List.setIfInBounds_toArray, List.set_cons_zero, List.set_cons_succ, Nat.reduceAdd, Nat.zero_add]
      refine calm_makes (by rfl) (by rfl) (fun W hW hD K hK => ?_) (fun v19 => ?_)
      · refine wp_of_run (v := .slice (some ⟨W.heap.size, 0, none⟩) 0 0) (w' := W.alloc (.cells #[] 3)) ?_ (hK _ _ (made_below (OwnI.mono (ownI_lit0 W) hW.size) ((Below.refl _ _).alloc (Nat.le_refl _) _) (World.ownsRow.lt (ownI_lit0 W))))
        clear hD hW hK
        go_simp
      simp only [Act.put, List.setIfInBounds_toArray, List.set_cons_zero, List.set_cons_succ, Nat.reduceAdd, Nat.zero_add]
      iterate 6 (refine calm_quiet (v := ?_) (by rfl) (by rfl) (fun W hW hD => ?_) ?_; rotate_left; (· (obtain ⟨z0, z1, z2, z3⟩ := HQ.out W hW; clear hD hW; go_simp; try with_reducible rfl)); simp only [Act.put, List.setIfInBounds_toArray, List.set_cons_zero, List.set_cons_succ, Nat.reduceAdd, Nat.zero_add])
      refine calm_makes (by rfl) (by rfl) (fun W hW hD K hK => ?_) (fun v26 => ?_)
      · have h2 : OwnI wr.heap.size W v19 [] := hD [] 2 (by kernel_rfl) (by kernel_rfl) (by kernel_rfl)
        exact wp_append_I (.tmp 19) (.tmp 25) rfl wr.heap.size w.heap.size v19 (.slice na r.needs.length nc) [] r.needs rfl rfl h2 (HNv.out.below (HWb.out W hW) (by omega)) (by simp; omega) hW.size (fun v' w' h1 h2 h3 => hK _ _ (made_grown (j := 2) (u := v19) (by kernel_rfl) rfl h1 h2 (fun g hg => ⟨(World.ownsRow.lt h1 g hg).2, grown_own h3 hg⟩)))
      simp only [Act.put, List.setIfInBounds_toArray, List.set_cons_zero, List.set_cons_succ, Nat.reduceAdd, Nat.zero_add]
      iterate 6 (refine calm_quiet (v := ?_) (by rfl) (by rfl) (fun W hW hD => ?_) ?_; rotate_left; (· (obtain ⟨z0, z1, z2, z3⟩ := HQ.out W hW; clear hD hW; go_simp; try with_reducible rfl)); simp only [Act.put, List.setIfInBounds_toArray, List.set_cons_zero, List.set_cons_succ, Nat.reduceAdd, Nat.zero_add])
      refine calm_quiet (v := .agg #[v26, .int .i64 r.gives]) (by rfl) (by rfl) (fun W hW hD => ?_) ?_
      · have h9 : OwnI wr.heap.size W v26 r.needs := hD [] 9 (by kernel_rfl) (by kernel_rfl) (by kernel_rfl)
        obtain ⟨xa, xc, rfl⟩ := h9.shape
        clear hD hW h9
        go_simp
      simp only [Act.put, List.setIfInBounds_toArray, List.set_cons_zero, List.set_cons_succ, Nat.reduceAdd, Nat.zero_add]
      refine calm_makes (by rfl) (by rfl) (fun W hW hD K hK => ?_) (fun v34 => ?_)
      · have h9 : OwnI wr.heap.size W v26 r.needs := hD [16] 9 (by kernel_rfl) (by kernel_rfl) (by kernel_rfl)
        obtain ⟨xa, xc, rfl⟩ := h9.shape
        refine wp_of_run (v := .slice (some ⟨W.heap.size, 0, none⟩) 1 1) (w' := W.alloc (.cells #[.slice xa r.needs.length xc, .int .i64 r.gives] 48)) ?_ (hK _ _ (made_below ⟨_, W.heap.size, rfl, World.alloc_heap_new W _, h9.below ((Below.refl _ _).alloc (Nat.le_refl _) _) (Nat.le_refl _)⟩ ((Below.refl _ _).alloc (Nat.le_refl _) _) (fun g hg => ?_)))
        · clear hD hW hK h9
          go_simp
        · have hg' : some W.heap.size = some g := hg
          injection hg' with hg'
          subst hg'
          exact ⟨Nat.le_refl _, by simp⟩
      simp only [Act.put, List.setIfInBounds_toArray, List.set_cons_zero, List.set_cons_succ, Nat.reduceAdd, Nat.zero_add]
      refine calm_makes (by rfl) (by rfl) (fun W hW hD K hK => ?_) (fun v35 => ?_)
      · obtain ⟨hv18, hrow, _⟩ := show v18 = .slice va cs.length vc ∧ RowR (w.heap.size + 3) W (.slice va cs.length vc) cs ∧ (∀ c ∈ cs, ∀ g, c.1.ownBlock = some g → g < wr.heap.size) from hD [] 1 (by kernel_rfl) (by kernel_rfl) (by kernel_rfl)
        subst hv18
        obtain ⟨nv', g', rfl, hblk, hnv⟩ : ∃ nv g, v34 = .slice (some ⟨g, 0, none⟩) 1 1 ∧ W.heap[g]? = some (.cells #[nv, .int .i64 r.gives] 48 (0, 0)) ∧ OwnI wr.heap.size W nv r.needs := hD [] 17 (by kernel_rfl) (by kernel_rfl) (by kernel_rfl)
        exact wp_append_R (.tmp 18) (.tmp 34) rfl (w.heap.size + 3) (.slice va cs.length vc) cs nv' r g' rfl rfl hblk hrow (hnv.mono hsz) hlen (Nat.le_trans hsz hW.size) (fun v' w' h1 h2 h3 => hK _ _ (made_grown (j := 1) (u := .slice va cs.length vc) (by kernel_rfl) rfl ⟨nv', fun g hg => (World.ownsRow.lt hnv g hg).1, h1⟩ h2 (fun g hg => ⟨(World.ownsRow.lt h1.1 g hg).2, grown_own h3 hg⟩)))
      simp only [Act.put, List.setIfInBounds_toArray, List.set_cons_zero, List.set_cons_succ, Nat.reduceAdd, Nat.zero_add]
      iterate 1 (refine calm_quiet (v := ?_) (by rfl) (by rfl) (fun W hW hD => ?_) ?_; rotate_left; (· (obtain ⟨z0, z1, z2, z3⟩ := HQ.out W hW; clear hD hW; go_simp; try with_reducible rfl)); simp only [Act.put, List.setIfInBounds_toArray, List.set_cons_zero, List.set_cons_succ, Nat.reduceAdd, Nat.zero_add])
      refine calm_tail (by rfl) fun W hW hF => ?_
      obtain ⟨nv', hnew, h18⟩ : ∃ nv : Value, (∀ g, nv.ownBlock = some g → wr.heap.size ≤ g) ∧ RowR (w.heap.size + 3) W v35 (cs ++ [(nv, r)]) := hF 18 (by kernel_rfl) (by kernel_rfl)
      have hbW := HWb.out W hW
      obtain ⟨xa, xc, hv35⟩ := h18.shape
      subst hv35
      obtain ⟨e1, e2, HP⟩ := made_pack2 HM.out (by omega) (by omega) (by omega) (by omega) (by omega) hbW h18
      have HSb := Lib.hid ((HS.out.below hbW (by omega)).other (a := ⟨w.heap.size + 2, 2, none⟩) (by show w.heap.size ≠ w.heap.size + 2; omega) (.slice xa (cs ++ [(nv', r)]).length xc))
      have HAp2 := Lib.hid (HAp.out.add HBd.out hnew r)
      clear hF hW hbW h18 hnew
      simp only [List.length_append, List.length_cons, List.length_nil, Nat.zero_add] at HP HSb ⊢
      go_wp2
      go_roundw
      case rel => exact ⟨j + 1, _, cs ++ [(nv', r)], by omega, by go_num, HP.out, HSb.out, by show _ = _; rw [HTk.out, List.map_append, HCs.out]; rfl, HAp2.out⟩
      case measure => simp [intOf]; omega
    · obtain rfl : j = m := by omega
      have r0 := HRR.out.c0
      have r1 := HRR.out.c1
      have r2 := HRR.out.c2
      have f0 := HRR.out.frozen 0
      have f1 := HRR.out.frozen 1
      have f2 := HRR.out.frozen 2
      have k0 := HTh.out.c0
      have k1 := HTh.out.c1
      have HFin : Hid (∀ W, (∃ x y z, W = ((wr.setCell ⟨w.heap.size + 1, 0, none⟩ x).setCell ⟨w.heap.size + 1, 1, none⟩ y).setCell ⟨w.heap.size + 1, 2, none⟩ z) → RowR w.heap.size W (.slice va cs.length vc) cs ∧ cs.map (·.2) = rs ∧ Below w.heap.size w W) := by
        rintro W ⟨x, y, z, rfl⟩
        have h1 := ((HRow.out.set_below (a := ⟨w.heap.size + 1, 0, none⟩) (by simp) x).set_below (a := ⟨w.heap.size + 1, 1, none⟩) (by simp) y).set_below (a := ⟨w.heap.size + 1, 2, none⟩) (by simp) z
        exact ⟨h1.mono (by omega), by rw [HCs.out, List.take_of_length_le (by rw [Hm.out]; exact Nat.le_refl _)], ((HB.out.setCell (p := ⟨w.heap.size + 1, 0, none⟩) (by simp) x).setCell (p := ⟨w.heap.size + 1, 1, none⟩) (by simp) y).setCell (p := ⟨w.heap.size + 1, 2, none⟩) (by simp) z⟩
      go_wp2
      obtain ⟨g1, g2, g3⟩ := HFin.out _ ⟨_, _, _, rfl⟩
      have hE := HRR.out.set012 (s' := s) (d' := d) (rv' := .slice va cs.length vc)
      exact bodyPost_ret (v := thV s d (.slice va cs.length vc)) (by simp [results, Tryd.results35, go_sem, hE.c0, hE.c1, hE.c2]) rfl ⟨_, cs, rfl, g1, g2, HAp.out, g3⟩
end Go.Proofs.YtmihkbiihfhpoaaDoor
