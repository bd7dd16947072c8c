/- The reference's Bent. -/
import Derived.Test.YtmihkbiihfhpoaaDoorJRefMany
import Derived.Test.YtmihkbiihfhpoaaDoorJMoreR
import Derived.Test.YtmihkbiihfhpoaaDoorJCopy2
import Derived.Lib.SmallJoins
namespace Go.Proofs.YtmihkbiihfhpoaaDoor
open Go.RowKit Go.Shelf

/-- What the world after the copy bears. -/
theorem bent_facts (w w2 : World) (s d s' d' : Int) (va ra : Option Addr) (m rc vc : Nat) (cs : List (Value × JRule))
    (hRow : RowR ((w.alloc (.cells #[.int .i64 s, .int .i64 d, .slice ra m rc] 25)).alloc (.cells #[.int .i64 0, .int .i64 0, .slice none 0 0] 25)).heap.size w2 (.slice va cs.length vc) cs)
    (hb2 : Below ((w.alloc (.cells #[.int .i64 s, .int .i64 d, .slice ra m rc] 25)).alloc (.cells #[.int .i64 0, .int .i64 0, .slice none 0 0] 25)).heap.size ((w.alloc (.cells #[.int .i64 s, .int .i64 d, .slice ra m rc] 25)).alloc (.cells #[.int .i64 0, .int .i64 0, .slice none 0 0] 25)) w2) :
    Hid (ThBox (w2.alloc (.cells #[.int .i64 s', .int .i64 d', .slice va cs.length vc] 25)) w2.heap.size s' d' (.slice va cs.length vc)) ∧
    Hid (ThBox (w2.alloc (.cells #[.int .i64 s', .int .i64 d', .slice va cs.length vc] 25)) (w.heap.size + 1) 0 0 (.slice none 0 0)) ∧
    Hid (RowR (w.heap.size + 2) (w2.alloc (.cells #[.int .i64 s', .int .i64 d', .slice va cs.length vc] 25)) (.slice va cs.length vc) cs) ∧
    Hid (Below w.heap.size w (w2.alloc (.cells #[.int .i64 s', .int .i64 d', .slice va cs.length vc] 25))) ∧ w.heap.size + 2 ≤ w2.heap.size := by
  have hsz := hb2.size
  simp only [World.size_alloc] at hRow hb2 hsz
  have hR := ThBox.new (w.alloc (.cells #[.int .i64 s, .int .i64 d, .slice ra m rc] 25)) 0 0 (.slice none 0 0)
  rw [World.size_alloc] at hR
  refine ⟨ThBox.new _ _ _ _, ?_, ?_, ?_, hsz⟩
  · exact (hR.below hb2 (by omega)).below ((Below.refl w2.heap.size _).alloc (Nat.le_refl _) _) (by omega)
  · exact hRow.below ((Below.refl _ _).alloc (Nat.le_refl _) _) (Nat.le_refl _)
  · exact ((((Below.refl _ _).alloc (Nat.le_refl _) _).alloc (by simp) _).trans (hb2.mono (by omega))).alloc (by omega) _
theorem RowR.block {base : Nat} {w : World} {v : Value} {cs : List (Value × JRule)} (h : RowR base w v cs) {g : Nat} (hg : v.ownBlock = some g) : ∃ C, w.heap[g]? = some (.cells C 48 (0, 0)) := by
  rcases h.1.2 with ⟨rfl, _⟩ | ⟨g', cap, cur, rfl, _, hgg, _⟩
  · cases hg
  · cases hg
    exact ⟨_, hgg⟩
theorem cell_set_same {w : World} {g i j : Nat} {C : Array Value} {t : TypeId} {z : Nat × Nat} (h : w.heap[g]? = some (.cells C t z)) (u : Value) : (w.setCell ⟨g, i, none⟩ u).cell? ⟨g, j, none⟩ = if i = j then (if j < C.size then some u else none) else w.cell? ⟨g, j, none⟩ := by
  rw [Joins.cell_of_block (Joins.block_setCell h u), Joins.cell_of_block h, Array.getElem?_setIfInBounds]
  by_cases e : i = j
  · subst e; simp
  · simp [e]
theorem cell_lt_block {w : World} {g j : Nat} {C : Array Value} {t : TypeId} {z : Nat × Nat} (h : w.heap[g]? = some (.cells C t z)) {u : Value} (hc : w.cell? ⟨g, j, none⟩ = some u) : j < C.size := by
  rw [Joins.cell_of_block h] at hc
  exact (Array.getElem?_eq_some_iff.1 hc).1
/-- A row of rules in which one cell is stored anew. -/
theorem RowR.rules_set {base : Nat} {w W : World} {a : Option Addr} {c : Nat} {cs : List (Value × JRule)} (h : RowR base w (.slice a cs.length c) cs) {k : Nat} (hk : k < cs.length) {g : Nat} (ha : a = some ⟨g, 0, none⟩) (o : Nat) (u : Value) (nv' : Value) (r' : JRule)
    (ho : (o = 0 ∧ u = nv' ∧ r'.gives = (cs[k]).2.gives) ∨ (o = 1 ∧ u = .int .i64 r'.gives ∧ nv' = (cs[k]).1)) (hW : ∀ j, W.cell? ⟨g, j, none⟩ = (w.setCell ⟨g, k * 2 + o, none⟩ u).cell? ⟨g, j, none⟩) (B : Nat) (hB : w.heap.size ≤ B) (hrow : ∀ i nv r, i ≠ k → cs[i]? = some (nv, r) → IntsAt B W nv r.needs)
    (hn : IntsAt B W nv' r'.needs) : RulesAt B W (.slice a cs.length c) ((cs.map (·.2)).set k r') := by
  subst ha
  obtain ⟨C, hC⟩ := h.block (g := g) rfl
  have hl : ((cs.map (·.2)).set k r').length = cs.length := by simp
  obtain ⟨a', c', he, h1, h2, _⟩ := h.rules
  rw [List.length_map] at he h1
  cases he
  refine ⟨_, _, by rw [hl], by rw [hl]; exact h1, h2, fun _ => ⟨g, 0, rfl, Nat.lt_of_lt_of_le (Array.getElem?_eq_some_iff.1 hC).1 hB, fun i hi => ?_⟩⟩
  rw [hl] at hi
  obtain ⟨g', hg', _, _, nv, r, hcs, hc1, hc2, _⟩ := h.at i hi
  cases hg'
  have hlt1 := cell_lt_block hC hc1
  have hlt2 := cell_lt_block hC hc2
  obtain ⟨hi', hcs'⟩ := List.getElem?_eq_some_iff.1 hcs
  rw [hW, hW, Nat.zero_add, cell_set_same hC, cell_set_same hC]
  by_cases e : i = k
  · subst e
    have eg : ((cs.map (·.2)).set i r').getD i default = r' := by simp [List.getD_eq_getElem?_getD, hi]
    rw [eg]
    refine ⟨nv', ?_, ?_, hn⟩
    · rcases ho with ⟨rfl, rfl, _⟩ | ⟨rfl, _, rfl⟩
      · rw [if_pos (by omega), if_pos hlt1]
      · rw [if_neg (by omega), hc1, hcs']
    · rcases ho with ⟨rfl, _, hg⟩ | ⟨rfl, rfl, _⟩
      · rw [if_neg (by omega), hc2, hg, hcs']
      · rw [if_pos (by omega), if_pos hlt2]
  · have eg : ((cs.map (·.2)).set k r').getD i default = r := by
      rw [List.getD_eq_getElem?_getD, List.getElem?_set_ne (by omega), List.getElem?_map, hcs]
      rfl
    rw [eg, if_neg (by rcases ho with ⟨rfl, _⟩ | ⟨rfl, _⟩ <;> omega), if_neg (by rcases ho with ⟨rfl, _⟩ | ⟨rfl, _⟩ <;> omega)]
    exact ⟨nv, hc1, hc2, hrow i nv r e hcs⟩
theorem ThBox.set0 {W : World} {T : Nat} {s d s' : Int} {rv : Value} (h : ThBox W T s d rv) : ThBox (W.setCell ⟨T, 0, none⟩ (.int .i64 s')) T s' d rv := by
  have := Joins.block_setCell (i := 0) (show W.heap[T]? = _ from h) (.int .i64 s')
  exact this
theorem ThBox.set1 {W : World} {T : Nat} {s d d' : Int} {rv : Value} (h : ThBox W T s d rv) : ThBox (W.setCell ⟨T, 1, none⟩ (.int .i64 d')) T s d' rv := by
  have := Joins.block_setCell (i := 1) (show W.heap[T]? = _ from h) (.int .i64 d')
  exact this
theorem cell_other {W : World} {a b : Addr} (h : a.block ≠ b.block) (u : Value) : (W.setCell a u).cell? b = W.cell? b := by
  unfold World.cell?
  rw [Below.heap_setCell W a u b.block (fun e => h e.symm)]
theorem nil_of_map {cs : List (Value × JRule)} {rs : List JRule} {m : Nat} (h : cs.map (·.2) = rs) (hm : rs.length = m) (h0 : m = 0) : cs = [] := by
  have := congrArg List.length h
  rw [List.length_map, hm, h0] at this
  exact List.eq_nil_of_length_eq_zero this
theorem len_ne {a m : Nat} (h : a = m) (h0 : ¬ m = 0) : ((a : Int) == 0) = false := by
  rw [beq_eq_false_iff_ne]
  omega
/-- The world behind the return. -/
def retW (W : World) (R : Nat) (x y z : Value) : World := ((W.setCell ⟨R, 0, none⟩ x).setCell ⟨R, 1, none⟩ y).setCell ⟨R, 2, none⟩ z
theorem retW_size (W : World) (R : Nat) (x y z : Value) : (retW W R x y z).heap.size = W.heap.size := by simp [retW]
theorem RowR.retW {base : Nat} {w : World} {v : Value} {cs : List (Value × JRule)} (h : RowR base w v cs) {R : Nat} (hR : R < base) (x y z : Value) : RowR base (retW w R x y z) v cs := ((h.set_below (a := ⟨R, 0, none⟩) hR x).set_below (a := ⟨R, 1, none⟩) hR y).set_below (a := ⟨R, 2, none⟩) hR z
theorem OwnI.retW {base : Nat} {w : World} {v : Value} {l : List Int} (h : OwnI base w v l) {R : Nat} (hR : R < base) (x y z : Value) : OwnI base (retW w R x y z) v l := ownsRow_setCell_below (ownsRow_setCell_below (ownsRow_setCell_below h (a := ⟨R, 0, none⟩) hR x) (a := ⟨R, 1, none⟩) hR y) (a := ⟨R, 2, none⟩) hR z
theorem below_retW {B R : Nat} {w W : World} (h : Below B w W) (hR : B ≤ R) (x y z : Value) : Below B w (retW W R x y z) := ((h.setCell (p := ⟨R, 0, none⟩) hR x).setCell (p := ⟨R, 1, none⟩) hR y).setCell (p := ⟨R, 2, none⟩) hR z
theorem ints_retW {base : Nat} {w W : World} {nv : Value} {l : List Int} (h : OwnI base w nv l) {R : Nat} (hR : R < base) (x y z : Value) (hW : W = Go.Proofs.YtmihkbiihfhpoaaDoor.retW w R x y z) : IntsAt w.heap.size W nv l := by
  subst hW
  have := (h.retW hR x y z).ints
  rwa [retW_size] at this
theorem own_one (W : World) (n : Int) : OwnI W.heap.size (W.alloc (.cells #[.int .i64 n] 3)) (.slice (some ⟨W.heap.size, 0, none⟩) 1 1) [n] := World.ownsRow_lit W #[.int .i64 n] 1 (Nat.le_refl _) (by unfold maxLen; omega) rfl
/-- What the operations of the last branch leave. -/
def BentF (B base : Nat) (nv : Value) (l : List Int) (n : Int) (k : Nat) (v : Value) (W : World) : Prop := if k = 8 then v = nv ∧ OwnI base W nv l else if k = 10 then OwnI B W v [n] ∧ ∃ g, v = .slice (some ⟨g, 0, none⟩) 1 1 else OwnI base W v (l ++ [n])
theorem BentF.kept {B base k : Nat} {nv v : Value} {l : List Int} {n : Int} {W W' : World} {c : Option Nat} (h : BentF B base nv l n k v W) (hg : W.grownBy W' c) (hc : ∀ g, c = some g → v.ownBlock ≠ some g) : BentF B base nv l n k v W' := by
  unfold BentF at *
  by_cases h8 : k = 8
  · rw [if_pos h8] at h ⊢
    obtain ⟨rfl, h⟩ := h
    exact ⟨rfl, rowI_kept h hg hc⟩
  · rw [if_neg h8] at h ⊢
    by_cases h10 : k = 10
    · rw [if_pos h10] at h ⊢
      exact ⟨rowI_kept h.1 hg hc, h.2⟩
    · rw [if_neg h10] at h ⊢
      exact rowI_kept h hg hc
theorem retW_cell {W : World} {R g j : Nat} (h : R ≠ g) (x y z : Value) : (retW W R x y z).cell? ⟨g, j, none⟩ = W.cell? ⟨g, j, none⟩ := by
  unfold retW
  rw [cell_other (by exact h), cell_other (by exact h), cell_other (by exact h)]
set_option maxRecDepth 100000 in
set_option maxHeartbeats 4000000 in
theorem refBent_any (s d : Int) (rv : Value) (rs : List JRule) (how n at_ : Int) (w : World) (hR : RulesAt w.heap.size w rv rs) (hl : rs.length ≤ 100) (hn : ∀ r ∈ rs, r.needs.length ≤ 1000)
    (hh1 : -9223372036854775808 ≤ how) (hh2 : how ≤ 9223372036854775807) (ha1 : -9223372036854775808 ≤ at_) (ha2 : at_ ≤ 9223372036854775807) :
    Calls Tryd.prog 12 #[thV s d rv, .int .i64 how, .int .i64 n, .int .i64 at_] w fun e w' => ∃ (t : JTh) (rv' : Value), e = .returned (thV t.seen t.drawn rv') ∧ RulesAt w'.heap.size w' rv' t.rules ∧ Below w.heap.size w w' := by
  have HCp := Lib.hid (fun (W : World) (hb : Below w.heap.size w W) => copy2_any s d rv rs W ((hR.below hb (Nat.le_refl _)).mono hb.size) hl hn)
  obtain ⟨ra, rc, rfl, hrc, hrm⟩ := hR.shape
  have HNl := Lib.hid hn
  clear hR hn hrc hrm
  generalize hm : rs.length = m at *
  have Hm := Lib.hid hm
  clear hm
  have hp4 := pickZ_bd how 4 (by omega)
  have PK4 : Hid (∀ W, Calls Tryd.prog 37 #[.int .i64 how, .int .i64 4] W fun e w' => e = .returned (.int .i64 (pickZ how 4)) ∧ W = w') := fun W => pickR_any how 4 W hh1 hh2 (by omega) (by omega)
  have PKl : Hid (∀ (N : Nat) W, 0 < N → N ≤ 1000 → Calls Tryd.prog 37 #[.int .i64 at_, .int .i64 N] W fun e w' => ∃ q : Nat, e = .returned (.int .i64 q) ∧ q < N ∧ W = w') := fun N W h1 h2 => (pickR_any at_ N W ha1 ha2 (by omega) (by omega)).mono fun e w' ⟨he, hw⟩ => by
    have hb := pickZ_bd at_ N (by omega)
    obtain ⟨q, hq⟩ := Int.eq_ofNat_of_zero_le hb.1
    exact ⟨q, by rw [he, hq], by omega, hw⟩
  generalize pickZ how 4 = hq at *
  clear hh1 hh2 ha1 ha2
  by_cases h0 : m = 0
  · have H0 := Lib.hid h0
    clear h0
    go_enter Tryd.func12, Tryd.ntmps12
    go_wp2_with fail
    refine (HCp.out _ (((Below.refl _ _).alloc (Nat.le_refl _) _).alloc (by simp) _)).mono ?_
    rintro e w2 ⟨rv', cs, rfl, hRow, hcs, hAp, hb2⟩
    obtain ⟨va, vc, hrv⟩ := hRow.shape
    subst hrv
    obtain rfl : cs = [] := nil_of_map hcs Hm.out H0.out
    obtain ⟨_, HR3, HRow3, HB3, hsz2⟩ := bent_facts w w2 s d n d va ra m rc vc [] hRow hb2
    simp only [List.length_nil] at HR3 HRow3 HB3 ⊢
    have b0 := HR3.out.c0
    have b1 := HR3.out.c1
    have b2 := HR3.out.c2
    have g0 := HR3.out.frozen 0
    have g1 := HR3.out.frozen 1
    have g2 := HR3.out.frozen 2
    have HFin : Hid (∀ W, W = retW (w2.alloc (.cells #[.int .i64 n, .int .i64 d, .slice va 0 vc] 25)) (w.heap.size + 1) (.int .i64 n) (.int .i64 d) (.slice va 0 vc) → RulesAt W.heap.size W (.slice va 0 vc) [] ∧ Below w.heap.size w W ∧ ThBox W (w.heap.size + 1) n d (.slice va 0 vc)) := by
      rintro W rfl
      exact ⟨(HRow3.out.retW (R := w.heap.size + 1) (by omega) _ _ _).rules, below_retW HB3.out (by omega) _ _ _, HR3.out.set012⟩
    clear hRow hcs hb2 hAp HR3 HRow3 HB3
    go_wp2
    obtain ⟨q1, q2, hE⟩ := HFin.out _ rfl
    simp only [retW] at q1 q2 hE
    exact bodyPost_ret (v := thV n d (.slice va 0 vc)) (by simp [results, Tryd.results12, go_sem, hE.c0, hE.c1, hE.c2]) rfl ⟨⟨n, d, []⟩, _, rfl, q1, q2⟩
  · have H0 := Lib.hid h0
    clear h0
    go_enter Tryd.func12, Tryd.ntmps12
    go_wp2_with fail
    refine (HCp.out _ (((Below.refl _ _).alloc (Nat.le_refl _) _).alloc (by simp) _)).mono ?_
    rintro e w2 ⟨rv', cs, rfl, hRow, hcs, hAp, hb2⟩
    obtain ⟨va, vc, hrv⟩ := hRow.shape
    subst hrv
    obtain ⟨HT3, HR3, HRow3, HB3, hsz2⟩ := bent_facts w w2 s d s d va ra m rc vc cs hRow hb2
    have hcl : cs.length = m := by rw [← Hm.out, ← hcs, List.length_map]
    have e0 := len_ne hcl H0.out
    have Hcl := Lib.hid hcl
    have Hcs := Lib.hid hcs
    have HAp := Lib.hid hAp
    clear hRow hcs hb2 hcl hAp
    obtain ⟨T, hT⟩ : ∃ T, Hid (T = w2.heap.size) := ⟨_, rfl⟩
    go_wp2_with fail
    refine (PKl.out cs.length _ (by have := H0.out; have := Hcl.out; omega) (by have := Hcl.out; omega)).mono ?_
    rintro e W3 ⟨q, rfl, hq3, hW3⟩
    rw [hW3, ← hT.out] at HT3
    rw [hW3] at HR3 HRow3 HB3
    rw [← hT.out] at hsz2
    rw [← hT.out]
    clear hW3 e0 hT
    go_wp2_with fail
    refine (PK4.out _).mono ?_
    rintro e W4 ⟨rfl, hW4⟩
    subst hW4
    have hc4 : hq = 0 ∨ hq = 1 ∨ hq = 2 ∨ hq = 3 := by omega
    clear hp4
    rcases hc4 with rfl | rfl | rfl | rfl
    · have HT4 := Lib.hid (HT3.out.set0 (s' := n))
      have HR4 := Lib.hid (HR3.out.other (a := ⟨T, 0, none⟩) (by show w.heap.size + 1 ≠ T; omega) (.int .i64 n))
      have HFin : Hid (∀ W, W = retW (W3.setCell ⟨T, 0, none⟩ (.int .i64 n)) (w.heap.size + 1) (.int .i64 n) (.int .i64 d) (.slice va cs.length vc) → RulesAt W.heap.size W (.slice va cs.length vc) (cs.map (·.2)) ∧ Below w.heap.size w W ∧ ThBox W (w.heap.size + 1) n d (.slice va cs.length vc)) := by
        rintro W rfl
        exact ⟨((HRow3.out.set_th (o := 0) HT3.out (.int .i64 n)).retW (R := w.heap.size + 1) (by omega) _ _ _).rules, below_retW (HB3.out.setCell (p := ⟨T, 0, none⟩) (by show w.heap.size ≤ T; omega) _) (by omega) _ _ _, HR4.out.set012⟩
      have k0 := HT3.out.c0
      have k1 := HT3.out.c1
      have k2 := HT3.out.c2
      have j0 := HT3.out.frozen 0
      have j1 := HT3.out.frozen 1
      have a0 := HT4.out.c0
      have a1 := HT4.out.c1
      have a2 := HT4.out.c2
      have b0 := HR4.out.c0
      have b1 := HR4.out.c1
      have b2 := HR4.out.c2
      have g0 := HR4.out.frozen 0
      have g1 := HR4.out.frozen 1
      have g2 := HR4.out.frozen 2
      clear HT3 HR3 HRow3 HB3 HT4 HR4
      go_wp2
      obtain ⟨q1, q2, hE⟩ := HFin.out _ rfl
      simp only [retW] at q1 q2 hE
      exact bodyPost_ret (v := thV n d (.slice va cs.length vc)) (by simp [results, Tryd.results12, go_sem, hE.c0, hE.c1, hE.c2]) rfl ⟨⟨n, d, cs.map (·.2)⟩, _, rfl, q1, q2⟩
    · have HT4 := Lib.hid (HT3.out.set1 (d' := n))
      have HR4 := Lib.hid (HR3.out.other (a := ⟨T, 1, none⟩) (by show w.heap.size + 1 ≠ T; omega) (.int .i64 n))
      have HFin : Hid (∀ W, W = retW (W3.setCell ⟨T, 1, none⟩ (.int .i64 n)) (w.heap.size + 1) (.int .i64 s) (.int .i64 n) (.slice va cs.length vc) → RulesAt W.heap.size W (.slice va cs.length vc) (cs.map (·.2)) ∧ Below w.heap.size w W ∧ ThBox W (w.heap.size + 1) s n (.slice va cs.length vc)) := by
        rintro W rfl
        exact ⟨((HRow3.out.set_th (o := 1) HT3.out (.int .i64 n)).retW (R := w.heap.size + 1) (by omega) _ _ _).rules, below_retW (HB3.out.setCell (p := ⟨T, 1, none⟩) (by show w.heap.size ≤ T; omega) _) (by omega) _ _ _, HR4.out.set012⟩
      have k0 := HT3.out.c0
      have k1 := HT3.out.c1
      have k2 := HT3.out.c2
      have j0 := HT3.out.frozen 0
      have j1 := HT3.out.frozen 1
      have a0 := HT4.out.c0
      have a1 := HT4.out.c1
      have a2 := HT4.out.c2
      have b0 := HR4.out.c0
      have b1 := HR4.out.c1
      have b2 := HR4.out.c2
      have g0 := HR4.out.frozen 0
      have g1 := HR4.out.frozen 1
      have g2 := HR4.out.frozen 2
      clear HT3 HR3 HRow3 HB3 HT4 HR4
      go_wp2
      obtain ⟨q1, q2, hE⟩ := HFin.out _ rfl
      simp only [retW] at q1 q2 hE
      exact bodyPost_ret (v := thV s n (.slice va cs.length vc)) (by simp [results, Tryd.results12, go_sem, hE.c0, hE.c1, hE.c2]) rfl ⟨⟨s, n, cs.map (·.2)⟩, _, rfl, q1, q2⟩
    · obtain ⟨g, hva, hg3, hbg, nv, r, hcsq, cc1, cc2, hnv⟩ := HRow3.out.at q hq3
      obtain ⟨C, hC⟩ := HRow3.out.block (g := g) (by rw [hva]; rfl)
      have hTg : T ≠ g := fun h => row_ne_th HRow3.out HT3.out (by rw [hva, h]; rfl)
      have hRg : w.heap.size + 1 ≠ g := by omega
      have fz := Joins.unfrozen_of_block hC (q * 2 + 1)
      have qq : (q : Int) < (cs.length : Int) := by omega
      have HT4 := Lib.hid (HT3.out.other (a := ⟨g, q * 2 + 1, none⟩) hTg (.int .i64 n))
      have HR4 := Lib.hid (HR3.out.other (a := ⟨g, q * 2 + 1, none⟩) hRg (.int .i64 n))
      have HFin : Hid (∀ W, W = retW (W3.setCell ⟨g, q * 2 + 1, none⟩ (.int .i64 n)) (w.heap.size + 1) (.int .i64 s) (.int .i64 d) (.slice va cs.length vc) → RulesAt W.heap.size W (.slice va cs.length vc) ((cs.map (·.2)).set q ⟨r.needs, n⟩) ∧ Below w.heap.size w W ∧ ThBox W (w.heap.size + 1) s d (.slice va cs.length vc)) := by
        rintro W hW
        have hsz : W.heap.size = W3.heap.size := by rw [hW, retW_size, World.size_setCell]
        have hrow : ∀ nv l, OwnI (w.heap.size + 2) W3 nv l → IntsAt W.heap.size W nv l := fun nv l h => by
          have h1 : OwnI (w.heap.size + 2) (W3.setCell ⟨g, q * 2 + 1, none⟩ (.int .i64 n)) nv l := ownsRow_set_ty h (a := ⟨g, q * 2 + 1, none⟩) hC (by decide) _
          have h2 := ints_retW h1 (R := w.heap.size + 1) (by omega) _ _ _ hW
          rwa [World.size_setCell, ← hsz] at h2
        refine ⟨HRow3.out.rules_set hq3 hva 1 (.int .i64 n) nv ⟨r.needs, n⟩ (.inr ⟨rfl, rfl, ?_⟩) (fun j => ?_) _ (by omega) (fun i nv' r' _ hi => hrow _ _ (HRow3.out.2 _ (List.mem_of_getElem? hi))) (hrow _ _ hnv), ?_, ?_⟩
        · obtain ⟨_, h⟩ := List.getElem?_eq_some_iff.1 hcsq
          rw [h]
        · rw [hW, retW_cell hRg]
        · rw [hW]
          exact below_retW (HB3.out.setCell (p := ⟨g, q * 2 + 1, none⟩) (by show w.heap.size ≤ g; omega) _) (by omega) _ _ _
        · rw [hW]
          exact HR4.out.set012
      subst hva
      have Hcsq := Lib.hid hcsq
      clear hnv hC hcsq
      have k0 := HT3.out.c0
      have k1 := HT3.out.c1
      have k2 := HT3.out.c2
      have j0 := HT3.out.frozen 0
      have j1 := HT3.out.frozen 1
      have a0 := HT4.out.c0
      have a1 := HT4.out.c1
      have a2 := HT4.out.c2
      have b0 := HR4.out.c0
      have b1 := HR4.out.c1
      have b2 := HR4.out.c2
      have g0 := HR4.out.frozen 0
      have g1 := HR4.out.frozen 1
      have g2 := HR4.out.frozen 2
      clear HT3 HR3 HRow3 HB3 HT4 HR4
      go_wp2
      obtain ⟨q1, q2, hE⟩ := HFin.out _ rfl
      simp only [retW] at q1 q2 hE
      exact bodyPost_ret (v := thV s d (.slice (some ⟨g, 0, none⟩) cs.length vc)) (by simp [results, Tryd.results12, go_sem, hE.c0, hE.c1, hE.c2]) rfl ⟨⟨s, d, (cs.map (·.2)).set q ⟨r.needs, n⟩⟩, _, rfl, q1, q2⟩
    · obtain ⟨g, hva, hg3, hbg, nv, r, hcsq, cc1, cc2, hnv⟩ := HRow3.out.at q hq3
      obtain ⟨C, hC⟩ := HRow3.out.block (g := g) (by rw [hva]; rfl)
      have hTg : T ≠ g := fun h => row_ne_th HRow3.out HT3.out (by rw [hva, h]; rfl)
      have hRg : w.heap.size + 1 ≠ g := by omega
      have qq : (q : Int) < (cs.length : Int) := by omega
      have hnl : r.needs.length ≤ 1000 := HNl.out r (by rw [← Hcs.out]; exact List.mem_map.2 ⟨(nv, r), List.mem_of_getElem? hcsq, rfl⟩)
      obtain ⟨na, nc, hnvs⟩ := hnv.shape
      have hlt := World.ownsRow.lt hnv
      have hty : ∀ x : Nat, nv.ownBlock = some x → x ≠ g ∧ x ≠ T ∧ x ≠ w.heap.size + 1 := fun x hx => by
        rcases hnv.2 with ⟨hn0, _⟩ | ⟨g', cap, cur, hnn, _, hgg, _⟩
        · rw [hn0] at hx; cases hx
        · rw [hnn] at hx
          cases hx
          refine ⟨fun e => ?_, fun e => ?_, fun e => ?_⟩
          · have e' : g' = g := e
            rw [e', hC] at hgg; cases hgg
          · have e' : g' = T := e
            rw [e', show W3.heap[T]? = _ from HT3.out] at hgg; cases hgg
          · have e' : g' = w.heap.size + 1 := e
            rw [e', show W3.heap[w.heap.size + 1]? = _ from HR3.out] at hgg; cases hgg
      have HQ : Hid (∀ W, W3.grownBy W nv.ownBlock → W.cell? ⟨T, 2, none⟩ = some (.slice va cs.length vc) ∧ W.cell? ⟨g, q * 2, none⟩ = some nv) := fun W hW => ⟨hW.cell HT3.out.c2 (fun e => (hty T e.symm).2.1 rfl), hW.cell cc1 (fun e => (hty g e.symm).1 rfl)⟩
      have HN := Lib.hid hnv
      have HCs1 := Lib.hid cc1
      have HEnd : Hid (∀ W v38, W3.grownBy W nv.ownBlock → OwnI (w.heap.size + 2) W v38 (r.needs ++ [n]) → (∀ j, W.frozen? ⟨g, j, none⟩ = false) ∧ ThBox (W.setCell ⟨g, q * 2, none⟩ v38) T s d (.slice va cs.length vc) ∧ ThBox (W.setCell ⟨g, q * 2, none⟩ v38) (w.heap.size + 1) 0 0 (.slice none 0 0) ∧
          ∀ W', W' = retW (W.setCell ⟨g, q * 2, none⟩ v38) (w.heap.size + 1) (.int .i64 s) (.int .i64 d) (.slice va cs.length vc) → RulesAt W'.heap.size W' (.slice va cs.length vc) ((cs.map (·.2)).set q ⟨r.needs ++ [n], r.gives⟩) ∧ Below w.heap.size w W' ∧ ThBox W' (w.heap.size + 1) s d (.slice va cs.length vc)) := by
        intro W v38 hW hv
        have hT : ThBox W T s d (.slice va cs.length vc) := (hW.block T HT3.out.lt (fun e => (hty T e.symm).2.1 rfl)).trans HT3.out
        have hR : ThBox W (w.heap.size + 1) 0 0 (.slice none 0 0) := (hW.block _ HR3.out.lt (fun e => (hty _ e.symm).2.2 rfl)).trans HR3.out
        have hCW : W.heap[g]? = some (.cells C 48 (0, 0)) := (hW.block g hg3 (fun e => (hty g e.symm).1 rfl)).trans hC
        have hR4 := hR.other (a := ⟨g, q * 2, none⟩) hRg v38
        refine ⟨fun j => Joins.unfrozen_of_block hCW j, hT.other (a := ⟨g, q * 2, none⟩) hTg v38, hR4, fun W' hW' => ?_⟩
        have hsz : W'.heap.size = W.heap.size := by rw [hW', retW_size, World.size_setCell]
        have hrow : ∀ nv l, OwnI (w.heap.size + 2) W nv l → IntsAt W'.heap.size W' nv l := fun nv l h => by
          have h1 : OwnI (w.heap.size + 2) (W.setCell ⟨g, q * 2, none⟩ v38) nv l := ownsRow_set_ty h (a := ⟨g, q * 2, none⟩) hCW (by decide) _
          have h2 := ints_retW h1 (R := w.heap.size + 1) (by omega) _ _ _ hW'
          rwa [World.size_setCell, ← hsz] at h2
        refine ⟨HRow3.out.rules_set hq3 hva 0 v38 v38 ⟨r.needs ++ [n], r.gives⟩ (.inl ⟨rfl, rfl, ?_⟩) (fun j => ?_) _ (by have := hW.size; omega) (fun i nv' r' hne hi => hrow _ _ (rowI_kept (HRow3.out.2 _ (List.mem_of_getElem? hi)) hW fun x hx he => ?_)) (hrow _ _ hv), ?_, ?_⟩
        · obtain ⟨_, h⟩ := List.getElem?_eq_some_iff.1 hcsq
          rw [h]
        · rw [hW', retW_cell hRg, Nat.add_zero, cell_set_same hCW, cell_set_same hC, Joins.cell_of_block hCW, Joins.cell_of_block hC]
        · obtain ⟨l1, e1⟩ := List.getElem?_eq_some_iff.1 hi
          obtain ⟨l2, e2⟩ := List.getElem?_eq_some_iff.1 hcsq
          have hp := List.pairwise_iff_getElem.1 HAp.out
          rcases Nat.lt_or_gt_of_ne hne with h | h
          · exact hp i q l1 l2 h x (by rw [e1]; exact he) (by rw [e2]; exact hx)
          · exact hp q i l2 l1 h x (by rw [e2]; exact hx) (by rw [e1]; exact he)
        · rw [hW']
          refine below_retW (Below.setCell ?_ (p := ⟨g, q * 2, none⟩) (by show w.heap.size ≤ g; omega) _) (by omega) _ _ _
          exact HB3.out.grown hW HB3.out.size (fun k hk => by have := (hlt k hk).1; omega)
        · rw [hW']
          exact hR4.set012
      have hsz3 : w.heap.size + 2 ≤ W3.heap.size := by have := HT3.out.lt; omega
      have HLt := Lib.hid hlt
      clear hnv hC hcsq cc1 cc2 HT3 HR3 HRow3 HB3 hty hlt HAp Hcs
      subst hva
      have k2 : W3.cell? ⟨T, 2, none⟩ = some (.slice (some ⟨g, 0, none⟩) cs.length vc) := (HQ.out W3 ⟨rfl, rfl, rfl, Nat.le_refl _, fun _ _ _ => rfl⟩).1
      go_wp2
      clear k2
      refine wp_region_calm ⟨[8, 10, 11], BentF W3.heap.size (w.heap.size + 2) nv r.needs n, fun k => if k = 11 then [8] else [], 8, nv.ownBlock, 14⟩ (by kernel_rfl) (by kernel_rfl) (by kernel_rfl) (fun g h => (HLt.out g h).2) (fun k hk v W W' c h hg hc => BentF.kept h hg fun g hh => (hc g hh).1) ?_
      iterate 8 (refine calm_quiet (v := ?_) (by rfl) (by rfl) (fun W hW hD => ?_) ?_; rotate_left; (· (obtain ⟨z0, z1⟩ := HQ.out W hW; clear hD hW; go_simp; try with_reducible rfl)); simp only [Act.put, List.setIfInBounds_toArray, List.set_cons_zero, List.set_cons_succ, Nat.reduceAdd, Nat.zero_add])
      refine calm_makes (by rfl) (by rfl) (fun W hW hD K hK => ?_) (fun v35 => ?_)
      · have hWn : W3.grownBy W none := hW
        have z1 := grown_cell0 hWn HCs1.out
        refine wp_of_run (v := nv) (w' := W) ?_ (hK _ _ ⟨show BentF W3.heap.size (w.heap.size + 2) nv r.needs n 8 nv W from by unfold BentF; rw [if_pos rfl]; exact ⟨rfl, HN.out.below (grown_below hWn) (Nat.le_refl _)⟩, ⟨none, ⟨rfl, rfl, rfl, Nat.le_refl _, fun _ _ _ => rfl⟩, .inl rfl⟩, fun g hg => ⟨Nat.lt_of_lt_of_le (HLt.out g hg).2 hWn.size, .inr (.inr ⟨rfl, hg⟩)⟩⟩)
        clear hD hW hK hWn
        go_simp
      simp only [Act.put, List.setIfInBounds_toArray, List.set_cons_zero, List.set_cons_succ, Nat.reduceAdd, Nat.zero_add]
      iterate 1 (refine calm_quiet (v := ?_) (by rfl) (by rfl) (fun W hW hD => ?_) ?_; rotate_left; (· (clear hD hW; go_simp; try with_reducible rfl)); simp only [Act.put, List.setIfInBounds_toArray, List.set_cons_zero, List.set_cons_succ, Nat.reduceAdd, Nat.zero_add])
      refine calm_makes (by rfl) (by rfl) (fun W hW hD K hK => ?_) (fun v37 => ?_)
      · refine wp_of_run (v := .slice (some ⟨W.heap.size, 0, none⟩) 1 1) (w' := W.alloc (.cells #[.int .i64 n] 3)) ?_ (hK _ _ (made_below (show BentF W3.heap.size (w.heap.size + 2) nv r.needs n 10 (.slice (some ⟨W.heap.size, 0, none⟩) 1 1) (W.alloc (.cells #[.int .i64 n] 3)) from by unfold BentF; rw [if_neg (by decide), if_pos rfl]; exact ⟨OwnI.mono (own_one W n) hW.size, _, rfl⟩) ((Below.refl _ _).alloc (Nat.le_refl _) _) (World.ownsRow.lt (own_one W n))))
        clear hD hW hK
        go_simp
      simp only [Act.put, List.setIfInBounds_toArray, List.set_cons_zero, List.set_cons_succ, Nat.reduceAdd, Nat.zero_add]
      refine calm_makes (by rfl) (by rfl) (fun W hW hD K hK => ?_) (fun v38 => ?_)
      · have h8 : BentF W3.heap.size (w.heap.size + 2) nv r.needs n 8 v35 W := hD [] 8 (by kernel_rfl) (by kernel_rfl) (by kernel_rfl)
        have h10 : BentF W3.heap.size (w.heap.size + 2) nv r.needs n 10 v37 W := hD [] 10 (by kernel_rfl) (by kernel_rfl) (by kernel_rfl)
        unfold BentF at h8 h10
        rw [if_pos rfl] at h8
        rw [if_neg (by decide), if_pos rfl] at h10
        obtain ⟨e35, h8⟩ := h8
        subst e35
        exact wp_append_I (.tmp 35) (.tmp 37) rfl (w.heap.size + 2) W.heap.size v35 v37 r.needs [n] rfl rfl h8 h10.1.ints (by simp; omega) (Nat.le_trans hsz3 hW.size) (fun v' w' h1 h2 h3 => hK _ _ (made_grown (j := 8) (u := v35) (by kernel_rfl) rfl (show BentF W3.heap.size (w.heap.size + 2) v35 r.needs n 11 v' w' from by unfold BentF; rw [if_neg (by decide), if_neg (by decide)]; exact h1) h2 (fun g hg => ⟨(World.ownsRow.lt h1 g hg).2, grown_own h3 hg⟩)))
      simp only [Act.put, List.setIfInBounds_toArray, List.set_cons_zero, List.set_cons_succ, Nat.reduceAdd, Nat.zero_add]
      iterate 2 (refine calm_quiet (v := ?_) (by rfl) (by rfl) (fun W hW hD => ?_) ?_; rotate_left; (· (obtain ⟨z0, z1⟩ := HQ.out W hW; clear hD hW; go_simp; try with_reducible rfl)); simp only [Act.put, List.setIfInBounds_toArray, List.set_cons_zero, List.set_cons_succ, Nat.reduceAdd, Nat.zero_add])
      refine calm_tail (by rfl) fun W hW hF => ?_
      have h11 : BentF W3.heap.size (w.heap.size + 2) nv r.needs n 11 v38 W := hF 11 (by kernel_rfl) (by kernel_rfl)
      unfold BentF at h11
      rw [if_neg (by decide), if_neg (by decide)] at h11
      obtain ⟨xa, xc, hv38⟩ := h11.shape
      have hLn : (r.needs ++ [n]).length = r.needs.length + 1 := by simp
      rw [hLn] at hv38
      clear hLn
      subst hv38
      obtain ⟨z0, z1⟩ := HQ.out W hW
      obtain ⟨fz, hT4, hR4, hFin⟩ := HEnd.out W _ hW h11
      have HFin := Lib.hid hFin
      have fq := fz (q * 2)
      have a0 := hT4.c0
      have a1 := hT4.c1
      have a2 := hT4.c2
      have b0 := hR4.c0
      have b1 := hR4.c1
      have b2 := hR4.c2
      have g0 := hR4.frozen 0
      have g1 := hR4.frozen 1
      have g2 := hR4.frozen 2
      clear hF hW h11 HEnd hFin hT4 hR4 fz
      go_wp2
      obtain ⟨q1, q2, hE⟩ := HFin.out _ rfl
      simp only [retW] at q1 q2 hE
      exact bodyPost_ret (v := thV s d (.slice (some ⟨g, 0, none⟩) cs.length vc)) (by simp [results, Tryd.results12, go_sem, hE.c0, hE.c1, hE.c2]) rfl ⟨⟨s, d, (cs.map (·.2)).set q ⟨r.needs ++ [n], r.gives⟩⟩, _, rfl, q1, q2⟩
end Go.Proofs.YtmihkbiihfhpoaaDoor
