/- The law's few: a theory cut down. -/
import Derived.Test.YtmihkbiihfhpoaaDoorJRefBent
namespace Go.Proofs.YtmihkbiihfhpoaaDoor
open Go.RowKit Go.Shelf

/-- Rules whose needs lie in the world of the call. -/
def NeedsIn (w : World) (cs : List (Value × JRule)) : Prop := ∀ c ∈ cs, IntsAt w.heap.size w c.1 c.2.needs
abbrev RowX (base : Nat) (w : World) (v : Value) (cs : List (Value × JRule)) : Prop := w.ownsRow base 48 2 v cs.length (cellsR cs)
theorem RowX.shape {base : Nat} {w : World} {v : Value} {cs : List (Value × JRule)} (h : RowX base w v cs) : ∃ a c, v = .slice a cs.length c := by
  rcases h.2 with ⟨rfl, h0⟩ | ⟨g, cap, cur, rfl, _⟩
  · exact ⟨none, 0, by rw [h0]⟩
  · exact ⟨_, _, rfl⟩
theorem RowX.rules {base : Nat} {w0 w : World} {v : Value} {cs : List (Value × JRule)} (h : RowX base w v cs) (hn : NeedsIn w0 cs) (hb : Below w0.heap.size w0 w) : RulesAt w.heap.size w v (cs.map (·.2)) := by
  have hl : (cs.map (·.2)).length = cs.length := List.length_map ..
  rcases h.2 with ⟨rfl, h0⟩ | ⟨g, cap, cur, rfl, hg, hgg, h1, h2, h3, h4⟩
  · obtain rfl : cs = [] := List.eq_nil_of_length_eq_zero h0
    exact RulesAt.nil _ _
  · refine ⟨some ⟨g, 0, none⟩, cap, by rw [hl], by rw [hl]; exact h1, h2, fun _ => ⟨g, 0, rfl, (Array.getElem?_eq_some_iff.1 hgg).1, fun i hi => ?_⟩⟩
    rw [hl] at hi
    have hget := cellsR_get cs i hi
    have hc1 := World.ownsRow.cells h (g := g) rfl (i * 2) _ hget.1
    have hc2 := World.ownsRow.cells h (g := g) rfl (i * 2 + 1) _ hget.2
    rw [Addr.add_lit] at hc1 hc2
    have e : (cs.map (·.2)).getD i default = cs[i].2 := by simp [List.getD_eq_getElem?_getD, hi]
    rw [e]
    exact ⟨cs[i].1, hc1, by rw [← Nat.add_assoc] at hc2; exact hc2, (hn _ (List.getElem_mem hi)).later hb (Nat.le_refl _)⟩
theorem rowX_kept {base : Nat} {cs : List (Value × JRule)} {v : Value} {W W' : World} {c : Option Nat} (h : RowX base W v cs) (hg : W.grownBy W' c) (hc : ∀ g, c = some g → v.ownBlock ≠ some g) : RowX base W' v cs :=
  World.ownsRow.kept h hg (by
    cases c with
    | none => cases v.ownBlock <;> simp
    | some g => exact .inr (hc g rfl))
/-- append of one rule, at one operation. -/
theorem wp_append_X {o : Oper} {a : Act} {w : World} {K : Act → World → Prop} {Q : Exit → Act → World → Prop} (s x : Operand)
    (ho : o.op = .call { callee := .builtin .append, args := #[s, x], argTypes := #[23, 23] }) (base : Nat) (v : Value) (cs : List (Value × JRule)) (na : Option Addr) (n c : Nat) (r : JRule) (q : Nat)
    (hs : a.eval s = v) (hx : a.eval x = .slice (some ⟨q, 0, none⟩) 1 1) (hq : w.heap[q]? = some (.cells #[.slice na n c, .int .i64 r.gives] 48 (0, 0))) (hown : RowX base w v cs) (hlen : cs.length < 1000) (hbase : base ≤ w.heap.size)
    (h : ∀ v' w', RowX base w' v' (cs ++ [(.slice na n c, r)]) → w.grownBy w' v.ownBlock → (v'.ownBlock = v.ownBlock ∨ v'.ownBlock = some w.heap.size) → K (a.put o.dst v') w') : Oper.wp Tryd.prog o a w K Q := by
  obtain ⟨i0, hi, hz0, hz1, hz2⟩ := info_parts info_rule
  have hcell : ∀ j u, ([.slice na n c, .int .i64 r.gives] : List Value)[j]? = some u → w.cell? ((⟨q, 0, none⟩ : Addr).add j) = some u := by
    intro j u hj
    match j, hj with
    | 0, hj => simp at hj; subst hj; simp [Addr.add, World.cell?, hq]
    | 1, hj => simp at hj; subst hj; simp [Addr.add, World.cell?, hq]
  obtain ⟨v', w', hr, h2, h3, _, h5⟩ := run_append_own_at (P := Tryd.prog) w base 23 o.type 48 i0 (.agg #[.slice none 0 0, .int .i64 0]) 2 32 Tryd.underlying23 hi hz0 hz1 hz2 rfl (by decide) v cs.length _ hown ⟨q, 0, none⟩ 1 1 [.slice na n c, .int .i64 r.gives] rfl hcell (fun u hu => by
    rcases List.mem_cons.1 hu with rfl | hu
    · rfl
    · rw [List.mem_singleton.1 hu]; rfl) (by unfold maxLen; omega) (by omega) hbase
  unfold Oper.wp execOp
  simp only [ho, resolve, invoke, builtin, Sem.run_bind, Sem.run_pure, Result.andThen_ok, List.map_toArray, List.map_cons, List.map_nil, hs, hx, hr]
  refine h v' w' ?_ h3 h5
  show w'.ownsRow _ _ _ _ _ _
  rw [List.length_append, cellsR, List.flatMap_append]
  exact h2
/-- What a round of few bears. -/
structure FewI (w : World) (s0 d0 : Int) (rv0 : Value) (s d : Int) (v : Value) (cs : List (Value × JRule)) (W : World) : Prop where
  t1 : ThBox W w.heap.size s0 d0 rv0
  r : ThBox W (w.heap.size + 1) 0 0 (.slice none 0 0)
  t3 : ThBox W (w.heap.size + 2) s d v
  row : RowX (w.heap.size + 3) W v cs
  below : Below w.heap.size w W
  needs : NeedsIn w cs
theorem FewI.later {w : World} {s0 d0 : Int} {rv0 : Value} {s d : Int} {v : Value} {cs : List (Value × JRule)} {W W' : World} (h : FewI w s0 d0 rv0 s d v cs W) (hb : Below W.heap.size W W') : FewI w s0 d0 rv0 s d v cs W' :=
  ⟨h.t1.below hb h.t1.lt, h.r.below hb h.r.lt, h.t3.below hb h.t3.lt, ownsRow_below h.row hb (Nat.le_refl _), h.below.trans (hb.mono h.below.size), h.needs⟩
theorem row_ne {base : Nat} {w : World} {v : Value} {cs : List (Value × JRule)} (h : RowX base w v cs) {T : Nat} {s d : Int} {rv : Value} (hb : ThBox w T s d rv) : some T ≠ v.ownBlock := fun e => by
  rcases h.2 with ⟨rfl, _⟩ | ⟨g, cap, cur, rfl, hg, hgg, _⟩
  · cases e
  · cases e
    rw [show w.heap[g]? = _ from hb] at hgg
    cases hgg
/-- A round ends: a rule more. -/
theorem FewI.next {w : World} {s0 d0 : Int} {rv0 : Value} {s d : Int} {v v' : Value} {cs cs' : List (Value × JRule)} {W W' : World} (h : FewI w s0 d0 rv0 s d v cs W) (hg : W.grownBy W' v.ownBlock) (hr : RowX (w.heap.size + 3) W' v' cs') (hn : NeedsIn w cs') : FewI w s0 d0 rv0 s d v' cs' (W'.setCell ⟨w.heap.size + 2, 2, none⟩ v') := by
  have k1 : ThBox W' w.heap.size s0 d0 rv0 := (hg.block _ h.t1.lt (row_ne h.row h.t1)).trans h.t1
  have k2 : ThBox W' (w.heap.size + 1) 0 0 (.slice none 0 0) := (hg.block _ h.r.lt (row_ne h.row h.r)).trans h.r
  have k3 : ThBox W' (w.heap.size + 2) s d v := (hg.block _ h.t3.lt (row_ne h.row h.t3)).trans h.t3
  refine ⟨k1.other (a := ⟨w.heap.size + 2, 2, none⟩) (by show w.heap.size ≠ w.heap.size + 2; omega) _, k2.other (a := ⟨w.heap.size + 2, 2, none⟩) (by show w.heap.size + 1 ≠ w.heap.size + 2; omega) _, k3.set2 v', ?_, ?_, hn⟩
  · exact ownsRow_set_ty hr (a := ⟨w.heap.size + 2, 2, none⟩) k3 (by decide) _
  · exact (h.below.grown hg h.below.size (fun k hk => by have := (World.ownsRow.lt h.row k hk).1; omega)).setCell (p := ⟨w.heap.size + 2, 2, none⟩) (by show w.heap.size ≤ w.heap.size + 2; omega) _
/-- What the operations of a round leave. -/
def FewF (base : Nat) (rv : Value) (cs : List (Value × JRule)) (na : Option Addr) (n c : Nat) (r : JRule) (k : Nat) (v : Value) (W : World) : Prop :=
  if k = 1 then v = rv ∧ RowX base W rv cs else if k = 12 then ∃ g, v = .slice (some ⟨g, 0, none⟩) 1 1 ∧ W.heap[g]? = some (.cells #[.slice na n c, .int .i64 r.gives] 48 (0, 0)) else RowX base W v (cs ++ [(.slice na n c, r)])
theorem FewF.kept {base : Nat} {rv : Value} {cs : List (Value × JRule)} {na : Option Addr} {n cc : Nat} {r : JRule} {k : Nat} {v : Value} {W W' : World} {c : Option Nat} (h : FewF base rv cs na n cc r k v W) (hg : W.grownBy W' c) (hc : ∀ g, c = some g → v.ownBlock ≠ some g) : FewF base rv cs na n cc r k v W' := by
  unfold FewF at *
  by_cases h1 : k = 1
  · rw [if_pos h1] at h ⊢
    obtain ⟨rfl, h⟩ := h
    exact ⟨rfl, rowX_kept h hg hc⟩
  · rw [if_neg h1] at h ⊢
    by_cases h12 : k = 12
    · rw [if_pos h12] at h ⊢
      obtain ⟨g, rfl, hb⟩ := h
      refine ⟨g, rfl, ?_⟩
      rw [hg.block g (Array.getElem?_eq_some_iff.1 hb).1 (fun e => hc g e.symm rfl)]
      exact hb
    · rw [if_neg h12] at h ⊢
      exact rowX_kept h hg hc
theorem few_start (w : World) (s0 d s' : Int) (ra : Option Addr) (m rc : Nat) (W0 : World) (hW0 : W0 = ((w.alloc (.cells #[.int .i64 s0, .int .i64 d, .slice ra m rc] 25)).alloc (.cells #[.int .i64 0, .int .i64 0, .slice none 0 0] 25)).alloc (.cells #[.int .i64 s', .int .i64 d, .slice none 0 0] 25)) :
    FewI w s0 d (.slice ra m rc) s' d (.slice none 0 0) [] W0 := by
  have hb0 : Below w.heap.size w W0 := by rw [hW0]; exact (((Below.refl _ _).alloc (Nat.le_refl _) _).alloc (by simp) _).alloc (by simp; omega) _
  have hS0 : ThBox W0 w.heap.size s0 d (.slice ra m rc) := by rw [hW0]; exact (ThBox.new w s0 d (.slice ra m rc)).below (((Below.refl (w.heap.size + 1) _).alloc (by simp) _).alloc (by simp) _) (by omega)
  have hR0 : ThBox W0 (w.heap.size + 1) 0 0 (.slice none 0 0) := by
    rw [hW0]
    have := ThBox.new (w.alloc (.cells #[.int .i64 s0, .int .i64 d, .slice ra m rc] 25)) 0 0 (.slice none 0 0)
    rw [World.size_alloc] at this
    exact this.below ((Below.refl (w.heap.size + 2) _).alloc (by simp) _) (by omega)
  have hT0 : ThBox W0 (w.heap.size + 2) s' d (.slice none 0 0) := by
    rw [hW0]
    have := ThBox.new ((w.alloc (.cells #[.int .i64 s0, .int .i64 d, .slice ra m rc] 25)).alloc (.cells #[.int .i64 0, .int .i64 0, .slice none 0 0] 25)) s' d (.slice none 0 0)
    rwa [World.size_alloc, World.size_alloc] at this
  exact ⟨hS0, hR0, hT0, World.ownsRow_nil _ _ _ _, hb0, fun c hc => by simp at hc⟩
set_option maxRecDepth 100000 in
set_option maxHeartbeats 4000000 in
theorem few_any (s0 d : Int) (rv : Value) (rs : List JRule) (w : World) (hR : RulesAt w.heap.size w rv rs) :
    Calls Tryd.prog 13 #[thV s0 d rv] w fun e w' => ∃ (t : JTh) (rv' : Value), e = .returned (thV t.seen t.drawn rv') ∧ RulesAt w'.heap.size w' rv' t.rules ∧ Below w.heap.size w w' := by
  obtain ⟨ra, rc, rfl, hrc, hrm⟩ := hR.shape
  unfold maxLen at hrm
  have HR := Lib.hid hR
  clear hR
  generalize hm : rs.length = m at *
  have Hm := Lib.hid hm
  clear hm
  have hc : (¬ 8 < s0) ∨ (8 < s0 ∧ ¬ s0 ≤ 12) ∨ (8 < s0 ∧ s0 ≤ 12) := by omega
  rcases hc with h1 | ⟨h1, h2⟩ | ⟨h1, h2⟩
  · go_enter Tryd.func13, Tryd.ntmps13
    go_wp2
    obtain ⟨W0, hW0⟩ : ∃ W0, W0 = ((w.alloc (.cells #[.int .i64 s0, .int .i64 d, .slice ra m rc] 25)).alloc (.cells #[.int .i64 0, .int .i64 0, .slice none 0 0] 25)).alloc (.cells #[.int .i64 s0, .int .i64 d, .slice none 0 0] 25) := ⟨_, rfl⟩
    have hI0 : FewI w s0 d (.slice ra m rc) s0 d (.slice none 0 0) [] W0 := few_start w s0 d s0 ra m rc W0 hW0
    rw [← hW0]
    simp only [Nat.add_assoc, Nat.reduceAdd]
    clear hW0
    go_loopw [4] (fun i wr => ∃ (j : Nat) (v : Value) (cs : List (Value × JRule)), j ≤ m ∧ j ≤ 6 ∧ i = .int .i64 j ∧ Hid (cs.length = j) ∧ FewI w s0 d (.slice ra m rc) s0 d v cs wr) (fun i _ => m - (intOf i).toNat)
    case atStart => exact ⟨0, _, [], Nat.zero_le _, Nat.zero_le _, rfl, rfl, hI0⟩
    case round =>
      obtain ⟨j, v, cs, hj, hj6, rfl, Hcl, hI⟩ := hrel
      have HI := Lib.hid hI
      have k2 := hI.t1.c2
      clear hI hI0
      by_cases hlt : j < m ∧ j < 6
      · obtain ⟨b, off, nv, hae, hbl, c1, c2, c3⟩ := HR.out.at j (by rw [Hm.out]; exact hlt.1)
        subst hae
        generalize rs.getD j default = r at *
        obtain ⟨na, nc, hnv, hnc, _⟩ := c3.shape
        subst hnv
        have HN := Lib.hid c3
        have jj : (j : Int) < (m : Int) := by omega
        have j6 : (j : Int) < 6 := by omega
        have dj : decide ((j : Int) < (m : Int)) = true := by simp; omega
        have dj6 : decide ((j : Int) < 6) = true := by simp; omega
        have q2 := (HI.out.below.cell (p := ⟨b, off + j * 2, none⟩) hbl).trans c1
        have q3 := (HI.out.below.cell (p := ⟨b, off + j * 2 + 1, none⟩) hbl).trans c2
        clear c1 c2 c3
        have HIa := Lib.hid (HI.out.later ((Below.refl wr.heap.size wr).alloc (Nat.le_refl _) (.cells #[.slice na r.needs.length nc, .int .i64 r.gives] 48)))
        have HvX : Hid (∀ g, v.ownBlock = some g → g < wr.heap.size) := fun g hg => (World.ownsRow.lt HI.out.row g hg).2
        have HRa := Lib.hid (RBox.new wr (.slice na r.needs.length nc) r.gives)
        generalize hln : r.needs.length = ln at *
        have Hln := Lib.hid hln
        clear hln
        go_wp2
        generalize hwa : wr.alloc (.cells #[.slice na ln nc, .int .i64 r.gives] 48) = wa at *
        generalize wr.heap.size = X at *
        clear hwa q2 q3 k2
        obtain ⟨va, vc, hv⟩ := HIa.out.row.shape
        subst hv
        have HIa2 := Lib.hid HIa.out
        have hTne : some (w.heap.size + 2) ≠ (Value.slice va cs.length vc).ownBlock := row_ne HIa.out.row HIa.out.t3
        have hXne : some X ≠ (Value.slice va cs.length vc).ownBlock := fun e => by
          have := HvX.out X e.symm
          omega
        have HQ : Hid (∀ W, wa.grownBy W (Value.slice va cs.length vc).ownBlock → W.cell? ⟨w.heap.size + 2, 2, none⟩ = some (.slice va cs.length vc) ∧ W.cell? ⟨X, 0, none⟩ = some (.slice na ln nc) ∧ W.cell? ⟨X, 1, none⟩ = some (.int .i64 r.gives)) := fun W hW => ⟨hW.cell HIa.out.t3.c2 hTne, hW.cell HRa.out.c0 hXne, hW.cell HRa.out.c1 hXne⟩
        have HLt : Hid (∀ g, (Value.slice va cs.length vc).ownBlock = some g → w.heap.size + 3 ≤ g ∧ g < wa.heap.size) := World.ownsRow.lt HIa.out.row
        have HQ1 := Lib.hid HIa.out.t3.c2
        obtain ⟨kk, hkk⟩ : ∃ kk : Nat, kk = min ln 7 := ⟨_, rfl⟩
        have m1 : (if (7 : Int) < (ln : Int) then (7 : Int) else (ln : Int)) = (kk : Int) := by split <;> omega
        have m2 : min (ln : Int) 7 = (kk : Int) := by omega
        have kl : (kk : Int) ≤ (nc : Int) := by omega
        have hk7 : kk ≤ ln := by omega
        clear hkk hTne hXne
        refine wp_region_calm ⟨[1, 12, 13], FewF (w.heap.size + 3) (.slice va cs.length vc) cs na kk nc ⟨r.needs.take kk, r.gives⟩, fun k => if k = 13 then [1] else [], 1, (Value.slice va cs.length vc).ownBlock, 15⟩ (by kernel_rfl) (by kernel_rfl) (by kernel_rfl) (fun g h => (HLt.out g h).2) (fun k hk v W W' c h hg hc => FewF.kept h hg fun g hh => (hc g hh).1) ?_
        iterate 1 (refine calm_quiet (v := ?_) (by rfl) (by rfl) (fun W hW hD => ?_) ?_; rotate_left; (· (obtain ⟨z0, z1, z2⟩ := HQ.out W hW; clear hD hW; go_simp; try with_reducible rfl)); simp only [Act.put, List.setIfInBounds_toArray, List.set_cons_zero, List.set_cons_succ, Nat.reduceAdd, Nat.zero_add])
        refine calm_makes (by rfl) (by rfl) (fun W hW hD K hK => ?_) (fun v37 => ?_)
        · have hWn : wa.grownBy W none := hW
          have z1 := grown_cell0 hWn HQ1.out
          refine wp_of_run (v := .slice va cs.length vc) (w' := W) ?_ (hK _ _ ⟨show FewF _ (.slice va cs.length vc) cs na kk nc ⟨r.needs.take kk, r.gives⟩ 1 _ W from by unfold FewF; rw [if_pos rfl]; exact ⟨rfl, rowX_kept HIa2.out.row hWn (fun g hg => by cases hg)⟩, ⟨none, ⟨rfl, rfl, rfl, Nat.le_refl _, fun _ _ _ => rfl⟩, .inl rfl⟩, fun g hg => ⟨Nat.lt_of_lt_of_le (HLt.out g hg).2 hWn.size, .inr (.inr ⟨rfl, hg⟩)⟩⟩)
          clear hD hW hK hWn
          go_simp
        simp only [Act.put, List.setIfInBounds_toArray, List.set_cons_zero, List.set_cons_succ, Nat.reduceAdd, Nat.zero_add]
        iterate 10 (refine calm_quiet (v := ?_) (by rfl) (by rfl) (fun W hW hD => ?_) ?_; rotate_left; (· (obtain ⟨z0, z1, z2⟩ := HQ.out W hW; clear hD hW; go_simp; try with_reducible rfl)); simp only [Act.put, List.setIfInBounds_toArray, List.set_cons_zero, List.set_cons_succ, Nat.reduceAdd, Nat.zero_add])
        refine calm_makes (by rfl) (by rfl) (fun W hW hD K hK => ?_) (fun v48 => ?_)
        · refine wp_of_run (v := .slice (some ⟨W.heap.size, 0, none⟩) 1 1) (w' := W.alloc (.cells #[.slice na kk nc, .int .i64 r.gives] 48)) ?_ (hK _ _ (made_below (show FewF (w.heap.size + 3) (.slice va cs.length vc) cs na kk nc ⟨r.needs.take kk, r.gives⟩ 12 (.slice (some ⟨W.heap.size, 0, none⟩) 1 1) (W.alloc (.cells #[.slice na kk nc, .int .i64 r.gives] 48)) from by unfold FewF; rw [if_neg (by decide), if_pos rfl]; exact ⟨_, rfl, World.alloc_heap_new W _⟩) ((Below.refl _ _).alloc (Nat.le_refl _) _) (fun g hg => ?_)))
          · clear hD hW hK
            go_simp
          · have hg' : some W.heap.size = some g := hg
            injection hg' with hg'
            subst hg'
            exact ⟨Nat.le_refl _, by simp⟩
        simp only [Act.put, List.setIfInBounds_toArray, List.set_cons_zero, List.set_cons_succ, Nat.reduceAdd, Nat.zero_add]
        refine calm_makes (by rfl) (by rfl) (fun W hW hD K hK => ?_) (fun v49 => ?_)
        · have h1 : FewF (w.heap.size + 3) (.slice va cs.length vc) cs na kk nc ⟨r.needs.take kk, r.gives⟩ 1 v37 W := hD [] 1 (by kernel_rfl) (by kernel_rfl) (by kernel_rfl)
          have h12 : FewF (w.heap.size + 3) (.slice va cs.length vc) cs na kk nc ⟨r.needs.take kk, r.gives⟩ 12 v48 W := hD [] 12 (by kernel_rfl) (by kernel_rfl) (by kernel_rfl)
          unfold FewF at h1 h12
          rw [if_pos rfl] at h1
          rw [if_neg (by decide), if_pos rfl] at h12
          obtain ⟨e37, h1⟩ := h1
          obtain ⟨g, e48, hg⟩ := h12
          subst e37 e48
          exact wp_append_X (.tmp 37) (.tmp 48) rfl (w.heap.size + 3) (.slice va cs.length vc) cs na kk nc ⟨r.needs.take kk, r.gives⟩ g rfl rfl hg h1 (by have := Hcl.out; omega) (Nat.le_trans (by have := HIa2.out.t3.lt; omega) hW.size) (fun v' w' h1 h2 h3 => hK _ _ (made_grown (j := 1) (u := .slice va cs.length vc) (by kernel_rfl) rfl (show FewF (w.heap.size + 3) (.slice va cs.length vc) cs na kk nc ⟨r.needs.take kk, r.gives⟩ 13 v' w' from by unfold FewF; rw [if_neg (by decide), if_neg (by decide)]; exact h1) h2 (fun g hg => ⟨(World.ownsRow.lt h1 g hg).2, grown_own h3 hg⟩)))
        simp only [Act.put, List.setIfInBounds_toArray, List.set_cons_zero, List.set_cons_succ, Nat.reduceAdd, Nat.zero_add]
        iterate 1 (refine calm_quiet (v := ?_) (by rfl) (by rfl) (fun W hW hD => ?_) ?_; rotate_left; (· (obtain ⟨z0, z1, z2⟩ := HQ.out W hW; clear hD hW; go_simp; try with_reducible rfl)); simp only [Act.put, List.setIfInBounds_toArray, List.set_cons_zero, List.set_cons_succ, Nat.reduceAdd, Nat.zero_add])
        refine calm_tail (by rfl) fun W hW hF => ?_
        have h13 : FewF (w.heap.size + 3) (.slice va cs.length vc) cs na kk nc ⟨r.needs.take kk, r.gives⟩ 13 v49 W := hF 13 (by kernel_rfl) (by kernel_rfl)
        unfold FewF at h13
        rw [if_neg (by decide), if_neg (by decide)] at h13
        obtain ⟨xa, xc, hv49⟩ := h13.shape
        have hcl2 : (cs ++ [((Value.slice na kk nc), (⟨r.needs.take kk, r.gives⟩ : JRule))]).length = j + 1 := by rw [List.length_append, Hcl.out]; rfl
        have HN2 : Hid (FewI w s0 d (.slice (some ⟨b, off, none⟩) m rc) s0 d v49 (cs ++ [((Value.slice na kk nc), (⟨r.needs.take kk, r.gives⟩ : JRule))]) (W.setCell ⟨w.heap.size + 2, 2, none⟩ v49)) := HIa2.out.next hW h13 (fun c hc => by
          rcases List.mem_append.1 hc with hc | hc
          · exact HIa2.out.needs c hc
          · rw [List.mem_singleton.1 hc]
            exact HN.out.take kk (by rw [Hln.out]; exact hk7))
        have z0 := (HQ.out W hW).1
        have hfz : W.frozen? ⟨w.heap.size + 2, 2, none⟩ = false := ThBox.frozen ((hW.block _ HIa2.out.t3.lt (row_ne HIa2.out.row HIa2.out.t3)).trans HIa2.out.t3) 2
        rw [hcl2] at hv49
        have Hcl2 := Lib.hid hcl2
        subst hv49
        clear hF hW h13 hcl2
        go_wp2
        go_roundw
        case rel => exact ⟨j + 1, _, _, by omega, by omega, by go_num, Hcl2.out, HN2.out⟩
        case measure => simp [intOf]; omega
      · have dd : (decide ((j : Int) < (m : Int)) && decide ((j : Int) < 6)) = false := by simp; omega
        obtain ⟨va, vc, hv⟩ := HI.out.row.shape
        subst hv
        have r0 := HI.out.r.c0
        have r1 := HI.out.r.c1
        have r2 := HI.out.r.c2
        have f0 := HI.out.r.frozen 0
        have f1 := HI.out.r.frozen 1
        have f2 := HI.out.r.frozen 2
        have t0 := HI.out.t3.c0
        have t1 := HI.out.t3.c1
        have t2 := HI.out.t3.c2
        have HFin : Hid (∀ W, W = retW wr (w.heap.size + 1) (.int .i64 s0) (.int .i64 d) (.slice va cs.length vc) → RulesAt W.heap.size W (.slice va cs.length vc) (cs.map (·.2)) ∧ Below w.heap.size w W ∧ ThBox W (w.heap.size + 1) s0 d (.slice va cs.length vc)) := by
          rintro W rfl
          have hb := below_retW HI.out.below (R := w.heap.size + 1) (by omega) (.int .i64 s0) (.int .i64 d) (.slice va cs.length vc)
          exact ⟨RowX.rules (ownsRow_setCell_below (ownsRow_setCell_below (ownsRow_setCell_below HI.out.row (a := ⟨w.heap.size + 1, 0, none⟩) (by show w.heap.size + 1 < w.heap.size + 3; omega) _) (a := ⟨w.heap.size + 1, 1, none⟩) (by show w.heap.size + 1 < w.heap.size + 3; omega) _) (a := ⟨w.heap.size + 1, 2, none⟩) (by show w.heap.size + 1 < w.heap.size + 3; omega) _) HI.out.needs hb, hb, HI.out.r.set012⟩
        by_cases hjm : j < m
        · have jj : (j : Int) < (m : Int) := by omega
          have j6 : ¬ (j : Int) < 6 := by omega
          go_wp2
          obtain ⟨q1, q2, hE⟩ := HFin.out _ rfl
          simp only [retW] at q1 q2 hE
          exact bodyPost_ret (v := thV s0 d (.slice va cs.length vc)) (by simp [results, Tryd.results13, go_sem, hE.c0, hE.c1, hE.c2]) rfl ⟨⟨s0, d, cs.map (·.2)⟩, _, rfl, q1, q2⟩
        · have jj : ¬ (j : Int) < (m : Int) := by omega
          go_wp2
          obtain ⟨q1, q2, hE⟩ := HFin.out _ rfl
          simp only [retW] at q1 q2 hE
          exact bodyPost_ret (v := thV s0 d (.slice va cs.length vc)) (by simp [results, Tryd.results13, go_sem, hE.c0, hE.c1, hE.c2]) rfl ⟨⟨s0, d, cs.map (·.2)⟩, _, rfl, q1, q2⟩
    
  · go_enter Tryd.func13, Tryd.ntmps13
    go_wp2
    obtain ⟨W0, hW0⟩ : ∃ W0, W0 = ((w.alloc (.cells #[.int .i64 s0, .int .i64 d, .slice ra m rc] 25)).alloc (.cells #[.int .i64 0, .int .i64 0, .slice none 0 0] 25)).alloc (.cells #[.int .i64 s0, .int .i64 d, .slice none 0 0] 25) := ⟨_, rfl⟩
    have hI0 : FewI w s0 d (.slice ra m rc) s0 d (.slice none 0 0) [] W0 := few_start w s0 d s0 ra m rc W0 hW0
    rw [← hW0]
    simp only [Nat.add_assoc, Nat.reduceAdd]
    clear hW0
    go_loopw [4] (fun i wr => ∃ (j : Nat) (v : Value) (cs : List (Value × JRule)), j ≤ m ∧ j ≤ 6 ∧ i = .int .i64 j ∧ Hid (cs.length = j) ∧ FewI w s0 d (.slice ra m rc) s0 d v cs wr) (fun i _ => m - (intOf i).toNat)
    case atStart => exact ⟨0, _, [], Nat.zero_le _, Nat.zero_le _, rfl, rfl, hI0⟩
    case round =>
      obtain ⟨j, v, cs, hj, hj6, rfl, Hcl, hI⟩ := hrel
      have HI := Lib.hid hI
      have k2 := hI.t1.c2
      clear hI hI0
      by_cases hlt : j < m ∧ j < 6
      · obtain ⟨b, off, nv, hae, hbl, c1, c2, c3⟩ := HR.out.at j (by rw [Hm.out]; exact hlt.1)
        subst hae
        generalize rs.getD j default = r at *
        obtain ⟨na, nc, hnv, hnc, _⟩ := c3.shape
        subst hnv
        have HN := Lib.hid c3
        have jj : (j : Int) < (m : Int) := by omega
        have j6 : (j : Int) < 6 := by omega
        have dj : decide ((j : Int) < (m : Int)) = true := by simp; omega
        have dj6 : decide ((j : Int) < 6) = true := by simp; omega
        have q2 := (HI.out.below.cell (p := ⟨b, off + j * 2, none⟩) hbl).trans c1
        have q3 := (HI.out.below.cell (p := ⟨b, off + j * 2 + 1, none⟩) hbl).trans c2
        clear c1 c2 c3
        have HIa := Lib.hid (HI.out.later ((Below.refl wr.heap.size wr).alloc (Nat.le_refl _) (.cells #[.slice na r.needs.length nc, .int .i64 r.gives] 48)))
        have HvX : Hid (∀ g, v.ownBlock = some g → g < wr.heap.size) := fun g hg => (World.ownsRow.lt HI.out.row g hg).2
        have HRa := Lib.hid (RBox.new wr (.slice na r.needs.length nc) r.gives)
        generalize hln : r.needs.length = ln at *
        have Hln := Lib.hid hln
        clear hln
        go_wp2
        generalize hwa : wr.alloc (.cells #[.slice na ln nc, .int .i64 r.gives] 48) = wa at *
        generalize wr.heap.size = X at *
        clear hwa q2 q3 k2
        obtain ⟨va, vc, hv⟩ := HIa.out.row.shape
        subst hv
        have HIa2 := Lib.hid HIa.out
        have hTne : some (w.heap.size + 2) ≠ (Value.slice va cs.length vc).ownBlock := row_ne HIa.out.row HIa.out.t3
        have hXne : some X ≠ (Value.slice va cs.length vc).ownBlock := fun e => by
          have := HvX.out X e.symm
          omega
        have HQ : Hid (∀ W, wa.grownBy W (Value.slice va cs.length vc).ownBlock → W.cell? ⟨w.heap.size + 2, 2, none⟩ = some (.slice va cs.length vc) ∧ W.cell? ⟨X, 0, none⟩ = some (.slice na ln nc) ∧ W.cell? ⟨X, 1, none⟩ = some (.int .i64 r.gives)) := fun W hW => ⟨hW.cell HIa.out.t3.c2 hTne, hW.cell HRa.out.c0 hXne, hW.cell HRa.out.c1 hXne⟩
        have HLt : Hid (∀ g, (Value.slice va cs.length vc).ownBlock = some g → w.heap.size + 3 ≤ g ∧ g < wa.heap.size) := World.ownsRow.lt HIa.out.row
        have HQ1 := Lib.hid HIa.out.t3.c2
        obtain ⟨kk, hkk⟩ : ∃ kk : Nat, kk = min ln 7 := ⟨_, rfl⟩
        have m1 : (if (7 : Int) < (ln : Int) then (7 : Int) else (ln : Int)) = (kk : Int) := by split <;> omega
        have m2 : min (ln : Int) 7 = (kk : Int) := by omega
        have kl : (kk : Int) ≤ (nc : Int) := by omega
        have hk7 : kk ≤ ln := by omega
        clear hkk hTne hXne
        refine wp_region_calm ⟨[1, 12, 13], FewF (w.heap.size + 3) (.slice va cs.length vc) cs na kk nc ⟨r.needs.take kk, r.gives⟩, fun k => if k = 13 then [1] else [], 1, (Value.slice va cs.length vc).ownBlock, 15⟩ (by kernel_rfl) (by kernel_rfl) (by kernel_rfl) (fun g h => (HLt.out g h).2) (fun k hk v W W' c h hg hc => FewF.kept h hg fun g hh => (hc g hh).1) ?_
        iterate 1 (refine calm_quiet (v := ?_) (by rfl) (by rfl) (fun W hW hD => ?_) ?_; rotate_left; (· (obtain ⟨z0, z1, z2⟩ := HQ.out W hW; clear hD hW; go_simp; try with_reducible rfl)); simp only [Act.put, List.setIfInBounds_toArray, List.set_cons_zero, List.set_cons_succ, Nat.reduceAdd, Nat.zero_add])
        refine calm_makes (by rfl) (by rfl) (fun W hW hD K hK => ?_) (fun v37 => ?_)
        · have hWn : wa.grownBy W none := hW
          have z1 := grown_cell0 hWn HQ1.out
          refine wp_of_run (v := .slice va cs.length vc) (w' := W) ?_ (hK _ _ ⟨show FewF _ (.slice va cs.length vc) cs na kk nc ⟨r.needs.take kk, r.gives⟩ 1 _ W from by unfold FewF; rw [if_pos rfl]; exact ⟨rfl, rowX_kept HIa2.out.row hWn (fun g hg => by cases hg)⟩, ⟨none, ⟨rfl, rfl, rfl, Nat.le_refl _, fun _ _ _ => rfl⟩, .inl rfl⟩, fun g hg => ⟨Nat.lt_of_lt_of_le (HLt.out g hg).2 hWn.size, .inr (.inr ⟨rfl, hg⟩)⟩⟩)
          clear hD hW hK hWn
          go_simp
        simp only [Act.put, List.setIfInBounds_toArray, List.set_cons_zero, List.set_cons_succ, Nat.reduceAdd, Nat.zero_add]
        iterate 10 (refine calm_quiet (v := ?_) (by rfl) (by rfl) (fun W hW hD => ?_) ?_; rotate_left; (· (obtain ⟨z0, z1, z2⟩ := HQ.out W hW; clear hD hW; go_simp; try with_reducible rfl)); simp only [Act.put, List.setIfInBounds_toArray, List.set_cons_zero, List.set_cons_succ, Nat.reduceAdd, Nat.zero_add])
        refine calm_makes (by rfl) (by rfl) (fun W hW hD K hK => ?_) (fun v48 => ?_)
        · refine wp_of_run (v := .slice (some ⟨W.heap.size, 0, none⟩) 1 1) (w' := W.alloc (.cells #[.slice na kk nc, .int .i64 r.gives] 48)) ?_ (hK _ _ (made_below (show FewF (w.heap.size + 3) (.slice va cs.length vc) cs na kk nc ⟨r.needs.take kk, r.gives⟩ 12 (.slice (some ⟨W.heap.size, 0, none⟩) 1 1) (W.alloc (.cells #[.slice na kk nc, .int .i64 r.gives] 48)) from by unfold FewF; rw [if_neg (by decide), if_pos rfl]; exact ⟨_, rfl, World.alloc_heap_new W _⟩) ((Below.refl _ _).alloc (Nat.le_refl _) _) (fun g hg => ?_)))
          · clear hD hW hK
            go_simp
          · have hg' : some W.heap.size = some g := hg
            injection hg' with hg'
            subst hg'
            exact ⟨Nat.le_refl _, by simp⟩
        simp only [Act.put, List.setIfInBounds_toArray, List.set_cons_zero, List.set_cons_succ, Nat.reduceAdd, Nat.zero_add]
        refine calm_makes (by rfl) (by rfl) (fun W hW hD K hK => ?_) (fun v49 => ?_)
        · have h1 : FewF (w.heap.size + 3) (.slice va cs.length vc) cs na kk nc ⟨r.needs.take kk, r.gives⟩ 1 v37 W := hD [] 1 (by kernel_rfl) (by kernel_rfl) (by kernel_rfl)
          have h12 : FewF (w.heap.size + 3) (.slice va cs.length vc) cs na kk nc ⟨r.needs.take kk, r.gives⟩ 12 v48 W := hD [] 12 (by kernel_rfl) (by kernel_rfl) (by kernel_rfl)
          unfold FewF at h1 h12
          rw [if_pos rfl] at h1
          rw [if_neg (by decide), if_pos rfl] at h12
          obtain ⟨e37, h1⟩ := h1
          obtain ⟨g, e48, hg⟩ := h12
          subst e37 e48
          exact wp_append_X (.tmp 37) (.tmp 48) rfl (w.heap.size + 3) (.slice va cs.length vc) cs na kk nc ⟨r.needs.take kk, r.gives⟩ g rfl rfl hg h1 (by have := Hcl.out; omega) (Nat.le_trans (by have := HIa2.out.t3.lt; omega) hW.size) (fun v' w' h1 h2 h3 => hK _ _ (made_grown (j := 1) (u := .slice va cs.length vc) (by kernel_rfl) rfl (show FewF (w.heap.size + 3) (.slice va cs.length vc) cs na kk nc ⟨r.needs.take kk, r.gives⟩ 13 v' w' from by unfold FewF; rw [if_neg (by decide), if_neg (by decide)]; exact h1) h2 (fun g hg => ⟨(World.ownsRow.lt h1 g hg).2, grown_own h3 hg⟩)))
        simp only [Act.put, List.setIfInBounds_toArray, List.set_cons_zero, List.set_cons_succ, Nat.reduceAdd, Nat.zero_add]
        iterate 1 (refine calm_quiet (v := ?_) (by rfl) (by rfl) (fun W hW hD => ?_) ?_; rotate_left; (· (obtain ⟨z0, z1, z2⟩ := HQ.out W hW; clear hD hW; go_simp; try with_reducible rfl)); simp only [Act.put, List.setIfInBounds_toArray, List.set_cons_zero, List.set_cons_succ, Nat.reduceAdd, Nat.zero_add])
        refine calm_tail (by rfl) fun W hW hF => ?_
        have h13 : FewF (w.heap.size + 3) (.slice va cs.length vc) cs na kk nc ⟨r.needs.take kk, r.gives⟩ 13 v49 W := hF 13 (by kernel_rfl) (by kernel_rfl)
        unfold FewF at h13
        rw [if_neg (by decide), if_neg (by decide)] at h13
        obtain ⟨xa, xc, hv49⟩ := h13.shape
        have hcl2 : (cs ++ [((Value.slice na kk nc), (⟨r.needs.take kk, r.gives⟩ : JRule))]).length = j + 1 := by rw [List.length_append, Hcl.out]; rfl
        have HN2 : Hid (FewI w s0 d (.slice (some ⟨b, off, none⟩) m rc) s0 d v49 (cs ++ [((Value.slice na kk nc), (⟨r.needs.take kk, r.gives⟩ : JRule))]) (W.setCell ⟨w.heap.size + 2, 2, none⟩ v49)) := HIa2.out.next hW h13 (fun c hc => by
          rcases List.mem_append.1 hc with hc | hc
          · exact HIa2.out.needs c hc
          · rw [List.mem_singleton.1 hc]
            exact HN.out.take kk (by rw [Hln.out]; exact hk7))
        have z0 := (HQ.out W hW).1
        have hfz : W.frozen? ⟨w.heap.size + 2, 2, none⟩ = false := ThBox.frozen ((hW.block _ HIa2.out.t3.lt (row_ne HIa2.out.row HIa2.out.t3)).trans HIa2.out.t3) 2
        rw [hcl2] at hv49
        have Hcl2 := Lib.hid hcl2
        subst hv49
        clear hF hW h13 hcl2
        go_wp2
        go_roundw
        case rel => exact ⟨j + 1, _, _, by omega, by omega, by go_num, Hcl2.out, HN2.out⟩
        case measure => simp [intOf]; omega
      · have dd : (decide ((j : Int) < (m : Int)) && decide ((j : Int) < 6)) = false := by simp; omega
        obtain ⟨va, vc, hv⟩ := HI.out.row.shape
        subst hv
        have r0 := HI.out.r.c0
        have r1 := HI.out.r.c1
        have r2 := HI.out.r.c2
        have f0 := HI.out.r.frozen 0
        have f1 := HI.out.r.frozen 1
        have f2 := HI.out.r.frozen 2
        have t0 := HI.out.t3.c0
        have t1 := HI.out.t3.c1
        have t2 := HI.out.t3.c2
        have HFin : Hid (∀ W, W = retW wr (w.heap.size + 1) (.int .i64 s0) (.int .i64 d) (.slice va cs.length vc) → RulesAt W.heap.size W (.slice va cs.length vc) (cs.map (·.2)) ∧ Below w.heap.size w W ∧ ThBox W (w.heap.size + 1) s0 d (.slice va cs.length vc)) := by
          rintro W rfl
          have hb := below_retW HI.out.below (R := w.heap.size + 1) (by omega) (.int .i64 s0) (.int .i64 d) (.slice va cs.length vc)
          exact ⟨RowX.rules (ownsRow_setCell_below (ownsRow_setCell_below (ownsRow_setCell_below HI.out.row (a := ⟨w.heap.size + 1, 0, none⟩) (by show w.heap.size + 1 < w.heap.size + 3; omega) _) (a := ⟨w.heap.size + 1, 1, none⟩) (by show w.heap.size + 1 < w.heap.size + 3; omega) _) (a := ⟨w.heap.size + 1, 2, none⟩) (by show w.heap.size + 1 < w.heap.size + 3; omega) _) HI.out.needs hb, hb, HI.out.r.set012⟩
        by_cases hjm : j < m
        · have jj : (j : Int) < (m : Int) := by omega
          have j6 : ¬ (j : Int) < 6 := by omega
          go_wp2
          obtain ⟨q1, q2, hE⟩ := HFin.out _ rfl
          simp only [retW] at q1 q2 hE
          exact bodyPost_ret (v := thV s0 d (.slice va cs.length vc)) (by simp [results, Tryd.results13, go_sem, hE.c0, hE.c1, hE.c2]) rfl ⟨⟨s0, d, cs.map (·.2)⟩, _, rfl, q1, q2⟩
        · have jj : ¬ (j : Int) < (m : Int) := by omega
          go_wp2
          obtain ⟨q1, q2, hE⟩ := HFin.out _ rfl
          simp only [retW] at q1 q2 hE
          exact bodyPost_ret (v := thV s0 d (.slice va cs.length vc)) (by simp [results, Tryd.results13, go_sem, hE.c0, hE.c1, hE.c2]) rfl ⟨⟨s0, d, cs.map (·.2)⟩, _, rfl, q1, q2⟩
    
  · go_enter Tryd.func13, Tryd.ntmps13
    go_wp2
    obtain ⟨W0, hW0⟩ : ∃ W0, W0 = ((w.alloc (.cells #[.int .i64 s0, .int .i64 d, .slice ra m rc] 25)).alloc (.cells #[.int .i64 0, .int .i64 0, .slice none 0 0] 25)).alloc (.cells #[.int .i64 8, .int .i64 d, .slice none 0 0] 25) := ⟨_, rfl⟩
    have hI0 : FewI w s0 d (.slice ra m rc) 8 d (.slice none 0 0) [] W0 := few_start w s0 d 8 ra m rc W0 hW0
    rw [← hW0]
    simp only [Nat.add_assoc, Nat.reduceAdd]
    clear hW0
    go_loopw [4] (fun i wr => ∃ (j : Nat) (v : Value) (cs : List (Value × JRule)), j ≤ m ∧ j ≤ 6 ∧ i = .int .i64 j ∧ Hid (cs.length = j) ∧ FewI w s0 d (.slice ra m rc) 8 d v cs wr) (fun i _ => m - (intOf i).toNat)
    case atStart => exact ⟨0, _, [], Nat.zero_le _, Nat.zero_le _, rfl, rfl, hI0⟩
    case round =>
      obtain ⟨j, v, cs, hj, hj6, rfl, Hcl, hI⟩ := hrel
      have HI := Lib.hid hI
      have k2 := hI.t1.c2
      clear hI hI0
      by_cases hlt : j < m ∧ j < 6
      · obtain ⟨b, off, nv, hae, hbl, c1, c2, c3⟩ := HR.out.at j (by rw [Hm.out]; exact hlt.1)
        subst hae
        generalize rs.getD j default = r at *
        obtain ⟨na, nc, hnv, hnc, _⟩ := c3.shape
        subst hnv
        have HN := Lib.hid c3
        have jj : (j : Int) < (m : Int) := by omega
        have j6 : (j : Int) < 6 := by omega
        have dj : decide ((j : Int) < (m : Int)) = true := by simp; omega
        have dj6 : decide ((j : Int) < 6) = true := by simp; omega
        have q2 := (HI.out.below.cell (p := ⟨b, off + j * 2, none⟩) hbl).trans c1
        have q3 := (HI.out.below.cell (p := ⟨b, off + j * 2 + 1, none⟩) hbl).trans c2
        clear c1 c2 c3
        have HIa := Lib.hid (HI.out.later ((Below.refl wr.heap.size wr).alloc (Nat.le_refl _) (.cells #[.slice na r.needs.length nc, .int .i64 r.gives] 48)))
        have HvX : Hid (∀ g, v.ownBlock = some g → g < wr.heap.size) := fun g hg => (World.ownsRow.lt HI.out.row g hg).2
        have HRa := Lib.hid (RBox.new wr (.slice na r.needs.length nc) r.gives)
        generalize hln : r.needs.length = ln at *
        have Hln := Lib.hid hln
        clear hln
        go_wp2
        generalize hwa : wr.alloc (.cells #[.slice na ln nc, .int .i64 r.gives] 48) = wa at *
        generalize wr.heap.size = X at *
        clear hwa q2 q3 k2
        obtain ⟨va, vc, hv⟩ := HIa.out.row.shape
        subst hv
        have HIa2 := Lib.hid HIa.out
        have hTne : some (w.heap.size + 2) ≠ (Value.slice va cs.length vc).ownBlock := row_ne HIa.out.row HIa.out.t3
        have hXne : some X ≠ (Value.slice va cs.length vc).ownBlock := fun e => by
          have := HvX.out X e.symm
          omega
        have HQ : Hid (∀ W, wa.grownBy W (Value.slice va cs.length vc).ownBlock → W.cell? ⟨w.heap.size + 2, 2, none⟩ = some (.slice va cs.length vc) ∧ W.cell? ⟨X, 0, none⟩ = some (.slice na ln nc) ∧ W.cell? ⟨X, 1, none⟩ = some (.int .i64 r.gives)) := fun W hW => ⟨hW.cell HIa.out.t3.c2 hTne, hW.cell HRa.out.c0 hXne, hW.cell HRa.out.c1 hXne⟩
        have HLt : Hid (∀ g, (Value.slice va cs.length vc).ownBlock = some g → w.heap.size + 3 ≤ g ∧ g < wa.heap.size) := World.ownsRow.lt HIa.out.row
        have HQ1 := Lib.hid HIa.out.t3.c2
        obtain ⟨kk, hkk⟩ : ∃ kk : Nat, kk = min ln 7 := ⟨_, rfl⟩
        have m1 : (if (7 : Int) < (ln : Int) then (7 : Int) else (ln : Int)) = (kk : Int) := by split <;> omega
        have m2 : min (ln : Int) 7 = (kk : Int) := by omega
        have kl : (kk : Int) ≤ (nc : Int) := by omega
        have hk7 : kk ≤ ln := by omega
        clear hkk hTne hXne
        refine wp_region_calm ⟨[1, 12, 13], FewF (w.heap.size + 3) (.slice va cs.length vc) cs na kk nc ⟨r.needs.take kk, r.gives⟩, fun k => if k = 13 then [1] else [], 1, (Value.slice va cs.length vc).ownBlock, 15⟩ (by kernel_rfl) (by kernel_rfl) (by kernel_rfl) (fun g h => (HLt.out g h).2) (fun k hk v W W' c h hg hc => FewF.kept h hg fun g hh => (hc g hh).1) ?_
        iterate 1 (refine calm_quiet (v := ?_) (by rfl) (by rfl) (fun W hW hD => ?_) ?_; rotate_left; (· (obtain ⟨z0, z1, z2⟩ := HQ.out W hW; clear hD hW; go_simp; try with_reducible rfl)); simp only [Act.put, List.setIfInBounds_toArray, List.set_cons_zero, List.set_cons_succ, Nat.reduceAdd, Nat.zero_add])
        refine calm_makes (by rfl) (by rfl) (fun W hW hD K hK => ?_) (fun v37 => ?_)
        · have hWn : wa.grownBy W none := hW
          have z1 := grown_cell0 hWn HQ1.out
          refine wp_of_run (v := .slice va cs.length vc) (w' := W) ?_ (hK _ _ ⟨show FewF _ (.slice va cs.length vc) cs na kk nc ⟨r.needs.take kk, r.gives⟩ 1 _ W from by unfold FewF; rw [if_pos rfl]; exact ⟨rfl, rowX_kept HIa2.out.row hWn (fun g hg => by cases hg)⟩, ⟨none, ⟨rfl, rfl, rfl, Nat.le_refl _, fun _ _ _ => rfl⟩, .inl rfl⟩, fun g hg => ⟨Nat.lt_of_lt_of_le (HLt.out g hg).2 hWn.size, .inr (.inr ⟨rfl, hg⟩)⟩⟩)
          clear hD hW hK hWn
          go_simp
        simp only [Act.put, List.setIfInBounds_toArray, List.set_cons_zero, List.set_cons_succ, Nat.reduceAdd, Nat.zero_add]
        iterate 10 (refine calm_quiet (v := ?_) (by rfl) (by rfl) (fun W hW hD => ?_) ?_; rotate_left; (· (obtain ⟨z0, z1, z2⟩ := HQ.out W hW; clear hD hW; go_simp; try with_reducible rfl)); simp only [Act.put, List.setIfInBounds_toArray, List.set_cons_zero, List.set_cons_succ, Nat.reduceAdd, Nat.zero_add])
        refine calm_makes (by rfl) (by rfl) (fun W hW hD K hK => ?_) (fun v48 => ?_)
        · refine wp_of_run (v := .slice (some ⟨W.heap.size, 0, none⟩) 1 1) (w' := W.alloc (.cells #[.slice na kk nc, .int .i64 r.gives] 48)) ?_ (hK _ _ (made_below (show FewF (w.heap.size + 3) (.slice va cs.length vc) cs na kk nc ⟨r.needs.take kk, r.gives⟩ 12 (.slice (some ⟨W.heap.size, 0, none⟩) 1 1) (W.alloc (.cells #[.slice na kk nc, .int .i64 r.gives] 48)) from by unfold FewF; rw [if_neg (by decide), if_pos rfl]; exact ⟨_, rfl, World.alloc_heap_new W _⟩) ((Below.refl _ _).alloc (Nat.le_refl _) _) (fun g hg => ?_)))
          · clear hD hW hK
            go_simp
          · have hg' : some W.heap.size = some g := hg
            injection hg' with hg'
            subst hg'
            exact ⟨Nat.le_refl _, by simp⟩
        simp only [Act.put, List.setIfInBounds_toArray, List.set_cons_zero, List.set_cons_succ, Nat.reduceAdd, Nat.zero_add]
        refine calm_makes (by rfl) (by rfl) (fun W hW hD K hK => ?_) (fun v49 => ?_)
        · have h1 : FewF (w.heap.size + 3) (.slice va cs.length vc) cs na kk nc ⟨r.needs.take kk, r.gives⟩ 1 v37 W := hD [] 1 (by kernel_rfl) (by kernel_rfl) (by kernel_rfl)
          have h12 : FewF (w.heap.size + 3) (.slice va cs.length vc) cs na kk nc ⟨r.needs.take kk, r.gives⟩ 12 v48 W := hD [] 12 (by kernel_rfl) (by kernel_rfl) (by kernel_rfl)
          unfold FewF at h1 h12
          rw [if_pos rfl] at h1
          rw [if_neg (by decide), if_pos rfl] at h12
          obtain ⟨e37, h1⟩ := h1
          obtain ⟨g, e48, hg⟩ := h12
          subst e37 e48
          exact wp_append_X (.tmp 37) (.tmp 48) rfl (w.heap.size + 3) (.slice va cs.length vc) cs na kk nc ⟨r.needs.take kk, r.gives⟩ g rfl rfl hg h1 (by have := Hcl.out; omega) (Nat.le_trans (by have := HIa2.out.t3.lt; omega) hW.size) (fun v' w' h1 h2 h3 => hK _ _ (made_grown (j := 1) (u := .slice va cs.length vc) (by kernel_rfl) rfl (show FewF (w.heap.size + 3) (.slice va cs.length vc) cs na kk nc ⟨r.needs.take kk, r.gives⟩ 13 v' w' from by unfold FewF; rw [if_neg (by decide), if_neg (by decide)]; exact h1) h2 (fun g hg => ⟨(World.ownsRow.lt h1 g hg).2, grown_own h3 hg⟩)))
        simp only [Act.put, List.setIfInBounds_toArray, List.set_cons_zero, List.set_cons_succ, Nat.reduceAdd, Nat.zero_add]
        iterate 1 (refine calm_quiet (v := ?_) (by rfl) (by rfl) (fun W hW hD => ?_) ?_; rotate_left; (· (obtain ⟨z0, z1, z2⟩ := HQ.out W hW; clear hD hW; go_simp; try with_reducible rfl)); simp only [Act.put, List.setIfInBounds_toArray, List.set_cons_zero, List.set_cons_succ, Nat.reduceAdd, Nat.zero_add])
        refine calm_tail (by rfl) fun W hW hF => ?_
        have h13 : FewF (w.heap.size + 3) (.slice va cs.length vc) cs na kk nc ⟨r.needs.take kk, r.gives⟩ 13 v49 W := hF 13 (by kernel_rfl) (by kernel_rfl)
        unfold FewF at h13
        rw [if_neg (by decide), if_neg (by decide)] at h13
        obtain ⟨xa, xc, hv49⟩ := h13.shape
        have hcl2 : (cs ++ [((Value.slice na kk nc), (⟨r.needs.take kk, r.gives⟩ : JRule))]).length = j + 1 := by rw [List.length_append, Hcl.out]; rfl
        have HN2 : Hid (FewI w s0 d (.slice (some ⟨b, off, none⟩) m rc) 8 d v49 (cs ++ [((Value.slice na kk nc), (⟨r.needs.take kk, r.gives⟩ : JRule))]) (W.setCell ⟨w.heap.size + 2, 2, none⟩ v49)) := HIa2.out.next hW h13 (fun c hc => by
          rcases List.mem_append.1 hc with hc | hc
          · exact HIa2.out.needs c hc
          · rw [List.mem_singleton.1 hc]
            exact HN.out.take kk (by rw [Hln.out]; exact hk7))
        have z0 := (HQ.out W hW).1
        have hfz : W.frozen? ⟨w.heap.size + 2, 2, none⟩ = false := ThBox.frozen ((hW.block _ HIa2.out.t3.lt (row_ne HIa2.out.row HIa2.out.t3)).trans HIa2.out.t3) 2
        rw [hcl2] at hv49
        have Hcl2 := Lib.hid hcl2
        subst hv49
        clear hF hW h13 hcl2
        go_wp2
        go_roundw
        case rel => exact ⟨j + 1, _, _, by omega, by omega, by go_num, Hcl2.out, HN2.out⟩
        case measure => simp [intOf]; omega
      · have dd : (decide ((j : Int) < (m : Int)) && decide ((j : Int) < 6)) = false := by simp; omega
        obtain ⟨va, vc, hv⟩ := HI.out.row.shape
        subst hv
        have r0 := HI.out.r.c0
        have r1 := HI.out.r.c1
        have r2 := HI.out.r.c2
        have f0 := HI.out.r.frozen 0
        have f1 := HI.out.r.frozen 1
        have f2 := HI.out.r.frozen 2
        have t0 := HI.out.t3.c0
        have t1 := HI.out.t3.c1
        have t2 := HI.out.t3.c2
        have HFin : Hid (∀ W, W = retW wr (w.heap.size + 1) (.int .i64 8) (.int .i64 d) (.slice va cs.length vc) → RulesAt W.heap.size W (.slice va cs.length vc) (cs.map (·.2)) ∧ Below w.heap.size w W ∧ ThBox W (w.heap.size + 1) 8 d (.slice va cs.length vc)) := by
          rintro W rfl
          have hb := below_retW HI.out.below (R := w.heap.size + 1) (by omega) (.int .i64 8) (.int .i64 d) (.slice va cs.length vc)
          exact ⟨RowX.rules (ownsRow_setCell_below (ownsRow_setCell_below (ownsRow_setCell_below HI.out.row (a := ⟨w.heap.size + 1, 0, none⟩) (by show w.heap.size + 1 < w.heap.size + 3; omega) _) (a := ⟨w.heap.size + 1, 1, none⟩) (by show w.heap.size + 1 < w.heap.size + 3; omega) _) (a := ⟨w.heap.size + 1, 2, none⟩) (by show w.heap.size + 1 < w.heap.size + 3; omega) _) HI.out.needs hb, hb, HI.out.r.set012⟩
        by_cases hjm : j < m
        · have jj : (j : Int) < (m : Int) := by omega
          have j6 : ¬ (j : Int) < 6 := by omega
          go_wp2
          obtain ⟨q1, q2, hE⟩ := HFin.out _ rfl
          simp only [retW] at q1 q2 hE
          exact bodyPost_ret (v := thV 8 d (.slice va cs.length vc)) (by simp [results, Tryd.results13, go_sem, hE.c0, hE.c1, hE.c2]) rfl ⟨⟨8, d, cs.map (·.2)⟩, _, rfl, q1, q2⟩
        · have jj : ¬ (j : Int) < (m : Int) := by omega
          go_wp2
          obtain ⟨q1, q2, hE⟩ := HFin.out _ rfl
          simp only [retW] at q1 q2 hE
          exact bodyPost_ret (v := thV 8 d (.slice va cs.length vc)) (by simp [results, Tryd.results13, go_sem, hE.c0, hE.c1, hE.c2]) rfl ⟨⟨8, d, cs.map (·.2)⟩, _, rfl, q1, q2⟩
    
end Go.Proofs.YtmihkbiihfhpoaaDoor
