import Derived.Test.YthfenbdlolbikaaGreatDoorMTreeA
import Derived.StillTailTactics
import Derived.Deep.AppendLies
import Derived.Test.YthfenbdlolbikaaGreatDoorMPlain
import Derived.Lib.ItoaNum
set_option linter.unusedVariables false
set_option linter.unusedSimpArgs false

section
/- digest.Root computes the root that rootL names. -/
namespace Go.Proofs.YthfenbdlolbikaaGreatDoor
open Go.RowKit Go.Shelf
attribute [local go_sem] Oper.semAt_some

theorem Parts2.drop {segs : List (List Bytes)} (h : Parts2 segs) (i : Nat) : Parts2 (segs.drop i) := ⟨h.1.drop, fun s hs => h.2 s (List.mem_of_mem_drop hs)⟩
/-- What the roots of the parts make, from the last one on. -/
def foldB (R : List Bytes) (o : Bytes) {m : Nat} (pre : List (Fin m)) : Bytes := pre.foldl (fun o i => nodeB (R.getD i.1 []) o) o
theorem foldB_snoc (R : List Bytes) (o : Bytes) {m : Nat} (pre : List (Fin m)) (x : Fin m) : foldB R o (pre ++ [x]) = nodeB (R.getD x.1 []) (foldB R o pre) := by unfold foldB; rw [List.foldl_append]; rfl
theorem foldB_back {segs : List (List Bytes)} (h : Parts2 segs) (M : Nat) (hM : segs.length = M + 1) : ∀ k, k ≤ M → foldB (segs.map rootL) (rootL (segs.getD M [])) (dn M k) = rootL (segs.drop (M - k)).flatten
  | 0, _ => by
    have e : segs.drop M = [segs.getD M []] := by
      rw [List.drop_eq_getElem_cons (by omega), List.drop_eq_nil_of_le (by omega), List.getD_eq_getElem?_getD, List.getElem?_eq_getElem (by omega)]
      rfl
    rw [Nat.sub_zero, e, List.flatten_cons, List.flatten_nil, List.append_nil]
    rfl
  | k + 1, hk => by
    rw [dn_succ M k (by omega), foldB_snoc, foldB_back h M hM k (by omega)]
    have hi : M - (k + 1) < segs.length := by omega
    have e : segs.drop (M - (k + 1)) = segs[M - (k + 1)] :: segs.drop (M - k) := by rw [List.drop_eq_getElem_cons hi, show M - (k + 1) + 1 = M - k from by omega]
    have hp := h.drop (M - (k + 1))
    rw [e] at hp ⊢
    rw [List.flatten_cons, rootL_parts hp (by intro h0; have := congrArg List.length h0; rw [List.length_drop] at this; simp at this; omega)]
    congr 1
    show (segs.map rootL).getD (M - 1 - k) [] = _
    rw [List.getD_eq_getElem?_getD, List.getElem?_map, show M - 1 - k = M - (k + 1) from by omega, List.getElem?_eq_getElem hi]
    rfl
theorem foldB_length (R : List Bytes) {m : Nat} : ∀ (pre : List (Fin m)) (o : Bytes), o.length = 32 → (foldB R o pre).length = 32
  | [], _, ho => ho
  | x :: t, o, _ => foldB_length R t (nodeB (R.getD x.1 []) o) (nodeB_length _ _)
/-- At the head of the loop over the entries. -/
def RootI (l : List Bytes) (base : Nat) (k : Nat) (v3 v4 : Value) (wr : World) : Prop :=
  ∃ segs : List (List Bytes), Parts2 segs ∧ segs.flatten = l.take k ∧ OwnS base wr v3 (segs.map rootL) ∧ OwnN base wr v4 (segs.map List.length)
theorem map_len_le (segs : List (List Bytes)) (h : Parts2 segs) : segs.length ≤ segs.flatten.length := by
  have : ∀ s ∈ segs, 1 ≤ s.length := fun s hs => by obtain ⟨e, he⟩ := h.2 s hs; have : 0 < 2 ^ e := Nat.pow_pos (by decide); omega
  clear h
  induction segs with
  | nil => simp
  | cons a t ih =>
    have h1 := this a (by simp)
    have h2 := ih (fun s hs => this s (by simp [hs]))
    rw [List.flatten_cons, List.length_append, List.length_cons]
    omega
theorem grown_of_below {W W' : World} (h : Below W.heap.size W W') (row : Option Nat) : W.grownBy W' row := ⟨h.os, h.tape, h.output, h.size, fun k hk _ => h.block k hk⟩
/-- An element of a list of strings. -/
def gB (R : List Bytes) (i : Nat) : ByteArray := bs (R.getD i [])
/-- Between two rounds of the last loop. -/
def FoldI (R : List Bytes) (o : Bytes) (m Bo : Nat) (W0 : World) (pre : List (Fin m)) (W : World) : Prop := Boxed W Bo 9 (.string (bs (foldB R o pre))) ∧ W0.grownBy W (some Bo)
theorem foldI_own (R : List Bytes) (o : Bytes) (m Bo B : Nat) (W0 : World) (hB : W0.heap.size ≤ B) (hH : Bo < B) : OwnFrom B (FoldI R o m Bo W0) := by
  intro s W W' row h hg hr
  refine ⟨(hg.block Bo h.1.lt (fun e => by have := (hr Bo e.symm).1; omega)).trans h.1, World.grownBy.andThen h.2 hg fun j hj => .inl ?_⟩
  have := (hr j hj).1
  omega
theorem Rounds.grown {w w' : World} {Bo : Nat} (h : Rounds w) (hg : w.grownBy w' (some Bo)) (hne : 0 ≠ Bo) : Rounds w' := fun j hj => hg.cell (h j hj) (fun e => hne (Option.some.inj e))
set_option maxRecDepth 100000 in
set_option maxHeartbeats 2000000 in
theorem root_any (v : Value) (l : List Bytes) (w : World) (hL : StrsAt w.heap.size w v l) (hlen : l.length ≤ 1000000) (hel : ∀ x ∈ l, x.length ≤ 274877906944) (hT : Rounds w) :
    Calls Tryz.prog 41 #[v] w fun e w' => e = .returned (.string (bs (rootL l))) ∧ Below w.heap.size w w' := by
  obtain ⟨av, cv, rfl, hcv1, hcv2⟩ := hL.shape
  unfold maxLen at hcv2
  have HL := Lib.hid hL
  have HEl := Lib.hid hel
  have HT := Lib.hid hT
  clear hL hel hT
  generalize hn : l.length = n at *
  have Hn := Lib.hid hn
  clear hn
  refine (callsIn_wide (n := 4)).1 ?_
  refine callsIn_of_wp_marks Tryz.func41 rfl trivial ?_
  simp only [Tryz.ntmps41, List.size_toArray, List.length_cons, List.length_nil, Nat.reduceAdd, Nat.reduceSub, Array.replicate_succ, Array.replicate_zero, List.push_toArray, List.append_toArray, List.nil_append, List.cons_append]
  refine wpIn_wide.2 ?_
  go_wp2
  go_loopw [3, 4, 13] (fun v3 v4 i wr => ∃ k : Nat, k ≤ n ∧ i = .int .i64 k ∧ Below w.heap.size w wr ∧ RootI l w.heap.size k v3 v4 wr) (fun _ _ i _ => n - (intOf i).toNat)
  case atStart => exact ⟨0, Nat.zero_le _, rfl, Below.refl _ _, [], ⟨by simp, by simp⟩, by simp, OwnS.nil _ _, OwnN.nil _ _⟩
  case round =>
    obtain ⟨k, hk, rfl, hB, segs, hP, hF, hS, hN⟩ := hrel
    have hzB := hB.size
    by_cases hlt : k < n
    · obtain ⟨bl, off, hae, hbl, hcl⟩ := HL.out.at k (by rw [Hn.out]; exact hlt)
      subst hae
      have c1 := (hB.cell (p := ⟨bl, off + k, none⟩) hbl).trans hcl
      have HX := Lib.hid (HEl.out _ (getD_mem' l [] k (by rw [Hn.out]; exact hlt)))
      have HTk : Hid (l.take (k + 1) = l.take k ++ [l.getD k []]) := by show _ = _; exact take_getD l [] k (by rw [Hn.out]; exact hlt)
      generalize l.getD k [] = x at c1 HX HTk
      have kk : (k : Int) < (n : Int) := by omega
      have HP := Lib.hid hP
      have HF := Lib.hid hF
      have hsl := map_len_le segs hP
      rw [hF, List.length_take, Hn.out] at hsl
      have hl3 : (segs.map rootL).length < 1099511627776 := by rw [List.length_map]; omega
      have hl4 : (segs.map List.length).length < 1099511627776 := by rw [List.length_map]; omega
      have HS := Lib.hid hS
      have HN := Lib.hid hN
      have HLf := Lib.hid (leaf_any (bs x) wr (by rw [bs_size]; exact HX.out) (HT.out.below hB (Nat.le_refl _)))
      rw [bs_list] at HLf
      clear hP hF hS hN hcl
      go_wp2_with fail
      refine HLf.out.mono ?_
      rintro e w1 ⟨rfl, hb1⟩
      have hz1 := hb1.size
      have HB1 : Hid (Below w.heap.size w w1) := hB.trans (hb1.mono hzB)
      have HS1 := Lib.hid (HS.out.below hb1 (Nat.le_refl _))
      have HN1 := Lib.hid (HN.out.below hb1 (Nat.le_refl _))
      have HN1a := Lib.hid (HN1.out.below ((Below.refl _ _).alloc (Nat.le_refl _) (.cells #[.string (bs (leafB x))] 9)) (Nat.le_refl _))
      have HS1a := Lib.hid (World.ownsRow.alloc HS1.out (.cells #[.string (bs (leafB x))] 9))
      clear HS HN HLf hb1
      go_wp2_with (first
        | (at_builtin; refine append_S rfl _ _ rfl w.heap.size u3 (segs.map rootL) (leafB x) rfl rfl HS1.out hl3 (by omega) w HB1.out ?_; intro v5 w2 hS2 hg2 hb2; have hz2 := hb2.size; have HS2 := Lib.hid hS2; have HN2 := Lib.hid (show OwnN w.heap.size w2 u4 (segs.map List.length) from row_kept HN1a.out HS1a.out (by decide) hg2); clear hS2 hg2)
        | (at_builtin; refine append_N rfl _ _ rfl w.heap.size u4 (segs.map List.length) 1 rfl rfl HN2.out hl4 (by omega) w hb2 ?_; intro v6 w3 hN3 hg3 hb3; obtain ⟨g4, cp4, hv6, _, _, _, _⟩ := hN3.shape3 (by simp); rw [List.length_append, List.length_map, List.length_singleton] at hv6; subst hv6; have HN3 := Lib.hid hN3; have HS3 := Lib.hid (show OwnS w.heap.size w3 v5 (segs.map rootL ++ [leafB x]) from row_kept (HS2.out.below ((Below.refl _ _).alloc (Nat.le_refl _) (.cells #[.int .i64 ((1 : Nat) : Int)] 3)) (Nat.le_refl _)) (World.ownsRow.alloc HN2.out (.cells #[.int .i64 ((1 : Nat) : Int)] 3)) (by decide) hg3); clear hN3 hg3))
      have HS4 : Hid (OwnS w.heap.size w3 v5 ((segs ++ [[x]]).map rootL)) := by show OwnS _ _ _ _; rw [List.map_append, List.map_singleton, rootL_one]; exact HS3.out
      have HN4 : Hid (OwnN w.heap.size w3 (.slice (some ⟨g4, 0, none⟩) (segs.length + 1) cp4) ((segs ++ [[x]]).map List.length)) := by show OwnN _ _ _ _; rw [List.map_append, List.map_singleton]; exact HN3.out
      have HF4 : Hid (segs.flatten ++ [x] = l.take (k + 1)) := by show _ = _; rw [HTk.out, HF.out]
      have HP4 := Lib.hid (Parts3.push HP.out x)
      clear HS2 HS1 HN2 HN1 HN1a HS1a HS3 HN3 HTk HF HP hsl hl3 hl4 hz1 hz2 hb2
      generalize hNN : segs.length + 1 = NN at *
      have HNN := Lib.hid hNN
      rw [show ((segs.length : Int) + 1) = (NN : Int) from by omega]
      clear hNN
      go_loopw [3, 4, 7] (fun v3 v4 nn wy => ∃ (init : List (List Bytes)) (last : List Bytes) (M : Nat), nn = .int .i64 (M : Int) ∧ M = init.length + 1 ∧ Below w.heap.size w wy ∧ Parts3 init last ∧ init.flatten ++ last = l.take (k + 1) ∧ OwnS w.heap.size wy v3 ((init ++ [last]).map rootL) ∧ OwnN w.heap.size wy v4 ((init ++ [last]).map List.length)) (fun _ _ nn _ => (intOf nn).toNat)
      case atStart => exact ⟨segs, [x], NN, rfl, HNN.out.symm, hb3, HP4.out, HF4.out, HS4.out, HN4.out⟩
      case round =>
        clear HS4 HN4 HF4 HP4 hb3
        obtain ⟨init, last, M, rfl, hM, hBy, hP, hF, hS, hN⟩ := hrel
        have HP := Lib.hid hP
        have HF := Lib.hid hF
        have HS := Lib.hid hS
        have HN := Lib.hid hN
        have hzy := hBy.size
        clear hP hF
        have hMl : M ≤ 1000000 + 1 := by
          have h1 := map_len_le init HP.out.1
          have h2 := congrArg List.length HF.out
          rw [List.length_append, List.length_take, Hn.out] at h2
          omega
        obtain ⟨g4, cp4, hv4, _, _, hc4, _⟩ := hN.shape3 (by simp)
        obtain ⟨g3, cp3, hv3, _, _, hc3, _⟩ := hS.shape3 (by simp)
        rw [List.length_map, List.length_append, List.length_singleton, ← hM] at hv4 hc4 hv3 hc3
        subst hv4
        subst hv3
        clear hS hN
        rcases List.eq_nil_or_concat init with h0 | ⟨init', b, h0⟩
        · subst h0
          have hgd : decide ((1 : Int) < (M : Int)) = false := by simp at hM ⊢; omega
          clear hM
          go_wp2
          go_quiet (fail)
          go_wp2
          go_roundw
          case rel =>
            refine ⟨k + 1, by omega, by go_num, below_drewN0 hBy _, [last], HP.out.alone, ?_, HS.out, HN.out⟩
            rw [← HF.out]; simp
          case measure => simp [intOf]; omega
        · rw [List.concat_eq_append] at h0
          subst h0
          have hMm : M = init'.length + 2 := by rw [hM]; simp
          obtain ⟨m, hm⟩ : ∃ m, m = init'.length := ⟨_, rfl⟩
          have hM2 : M = m + 2 := by omega
          have Hm := Lib.hid hm
          have e1 : ((init' ++ [b] ++ [last]).map List.length).getD m 0 = b.length := by rw [hm]; simp [List.getD_eq_getElem?_getD]
          have e2 : ((init' ++ [b] ++ [last]).map List.length).getD (m + 1) 0 = last.length := by rw [hm]; simp [List.getD_eq_getElem?_getD]
          have e3 : ((init' ++ [b] ++ [last]).map rootL).getD m [] = rootL b := by rw [hm]; simp [List.getD_eq_getElem?_getD]
          have e4 : ((init' ++ [b] ++ [last]).map rootL).getD (m + 1) [] = rootL last := by rw [hm]; simp [List.getD_eq_getElem?_getD]
          have HN2c := Lib.hid (fun (W : World) (h : OwnN w.heap.size W (.slice (some ⟨g4, 0, none⟩) M cp4) ((init' ++ [b] ++ [last]).map List.length)) => h.cell (m + 1) (by simp; omega))
          rw [e2] at HN2c
          have n1 := HN.out.cell m (by simp; omega)
          have n2 := HN.out.cell (m + 1) (by simp; omega)
          rw [e1] at n1
          rw [e2] at n2
          have HS1 := Lib.hid (fun (W : World) (h : OwnS w.heap.size W (.slice (some ⟨g3, 0, none⟩) M cp3) ((init' ++ [b] ++ [last]).map rootL)) => h.cell m (by simp; omega))
          have HS2 := Lib.hid (fun (W : World) (h : OwnS w.heap.size W (.slice (some ⟨g3, 0, none⟩) M cp3) ((init' ++ [b] ++ [last]).map rootL)) => h.cell (m + 1) (by simp; omega))
          rw [e3] at HS1
          rw [e4] at HS2
          clear e1 e2 e3 e4 hm hM hMm
          have hgd : decide ((1 : Int) < (M : Int)) = true := by simp; omega
          have w2' : IntKind.i64.wrap ((M : Int) - 2) = (M : Int) - 2 := IntWalk.i64_in _ (by omega)
          have w1' : IntKind.i64.wrap ((M : Int) - 1) = (M : Int) - 1 := IntWalk.i64_in _ (by omega)
          have z2 : 2 ≤ (M : Int) := by omega
          have z1 : 1 ≤ (M : Int) := by omega
          have y2 : 0 ≤ (M : Int) - 2 := by omega
          have y1 : 0 ≤ (M : Int) - 1 := by omega
          have l2 : (M : Int) - 2 < (M : Int) := by omega
          have l1 : (M : Int) - 1 < (M : Int) := by omega
          have t2 : ((M : Int) - 2).toNat = m := by omega
          have t1 : ((M : Int) - 1).toNat = m + 1 := by omega
          have k2 : (M : Int) - 2 ≤ (cp3 : Int) := by omega
          have k4 : (M : Int) - 2 ≤ (cp4 : Int) := by omega
          have hmB : m ≤ 1000000 := by omega
          have hlb : last.length ≤ 1000000 := by
            have h2 := congrArg List.length HF.out
            rw [List.length_append, List.length_take, Hn.out] at h2
            omega
          have HM2 := Lib.hid hM2
          clear hM2
          by_cases hbe : b.length = last.length
          · have heq : (((b.length : Nat) : Int) == ((last.length : Nat) : Int)) = true := by simp [hbe]
            have HBe := Lib.hid hbe
            clear hbe
            go_wp2
            go_quiet (fail)
            go_wp2
            refine wp_gen (fun W' => Below w.heap.size w W' ∧ OwnS w.heap.size W' (.slice (some ⟨g3, 0, none⟩) M cp3) ((init' ++ [b] ++ [last]).map rootL) ∧ OwnN w.heap.size W' (.slice (some ⟨g4, 0, none⟩) M cp4) ((init' ++ [b] ++ [last]).map List.length)) ⟨below_drewN0 hBy _, HS.out, HN.out⟩ ?_
            rintro W4 ⟨hB4, hS4, hN4⟩
            have HB4 := Lib.hid hB4
            have HS4 := Lib.hid hS4
            have HN4 := Lib.hid hN4
            have hz4 := hB4.size
            have q1 : W4.drew.cell? ⟨g3, m, none⟩ = some (.string (bs (rootL b))) := HS1.out W4 hS4
            have q2 : W4.drew.cell? ⟨g3, m + 1, none⟩ = some (.string (bs (rootL last))) := HS2.out W4 hS4
            clear hBy hS4 hN4 hB4 n1 n2 HS HN
            have HNd := Lib.hid (node_any (bs (rootL b)) (bs (rootL last)) W4.drew (by rw [bs_size, rootL_length]; decide) (by rw [bs_size, rootL_length]; decide) (HT.out.below HB4.out.drew (Nat.le_refl _)))
            rw [bs_list, bs_list] at HNd
            have HTk : Hid (OwnS w.heap.size W4.drew (.slice (some ⟨g3, 0, none⟩) m cp3) (init'.map rootL)) := by
              have h1 := HS4.out.take m (by simp; have := Hm.out; omega)
              rw [show ((init' ++ [b] ++ [last]).map rootL).take m = init'.map rootL from by rw [Hm.out]; simp] at h1
              exact h1
            have Hm' : Hid ((init'.map rootL).length = m) := by show _ = _; rw [List.length_map, Hm.out]
            obtain ⟨i0, hi0, hz0, hz1, hz2⟩ := info_parts infoS1
            refine wp_region_noPanic ?_
            go_region_law (first | (go_simp; go_at_call 76; refine HNd.out.mono ?_; rintro e w5 ⟨rfl, hb5⟩; have hz5 : w.heap.size ≤ w5.heap.size := (Nat.le_trans HB4.out.size hb5.size); have HTk5 := Lib.hid (HTk.out.below hb5 (Nat.le_refl _))) | (refine step_append_lies _ (by rfl) _ _ 26 (by rfl) w.heap.size 9 i0 _ 1 16 Tryz.underlying26 hi0 hz0 hz1 hz2 rfl (by omega) (.slice (some ⟨g3, 0, none⟩) m cp3) m _ (by rfl) (World.ownsRow.alloc (by have := HTk5.out; unfold OwnS at this; rw [Hm'.out] at this; exact this) _) ⟨w5.heap.size, 0, none⟩ 1 1 [.string (bs (nodeB (rootL b) (rootL last)))] (by rfl) (by rfl) (World.news_of_block (heap_alloc_new w5 _)) (by simp [Value.oneCell']) (by omega) (by unfold maxLen; omega) (by omega) (by simp; omega) (w5.heap.size + 1) (by simp) ?_; intro gg cap w6 hown6 hgrow hat hlt6))
            all_goals
              refine NoPanic.normal ?_
              have HJ := Lib.hid (Parts3.join HP.out HBe.out)
              have hS6 : OwnS w.heap.size w6 (.slice (some ⟨gg, 0, none⟩) (m + 1) cap) ((init' ++ [b ++ last]).map rootL) := by
                unfold OwnS
                rw [List.map_append, List.map_singleton, HJ.out.2, List.length_append, Hm'.out, List.map_append]
                exact hown6
              have hN5 : OwnN w.heap.size w5 (.slice (some ⟨g4, 0, none⟩) M cp4) ((init' ++ [b] ++ [last]).map List.length) := (show OwnN w.heap.size W4.drew _ _ from HN4.out).below hb5 (Nat.le_refl _)
              have hN6 : OwnN w.heap.size w6 (.slice (some ⟨g4, 0, none⟩) M cp4) ((init' ++ [b] ++ [last]).map List.length) := row_kept (World.ownsRow.alloc hN5 _) (World.ownsRow.alloc (show w5.ownsRow w.heap.size 9 1 (.slice (some ⟨g3, 0, none⟩) m cp3) m _ from by have := HTk5.out; unfold OwnS at this; rw [Hm'.out] at this; exact this) _) (by decide) hgrow
              have hB5 : Below w.heap.size w w5 := HB4.out.drew.trans (hb5.mono (by show w.heap.size ≤ W4.heap.size; exact hz4))
              have hB6 : Below w.heap.size w w6 := (hB5.alloc hz5 _).grown hgrow (by simp; omega) (fun k hk => (World.ownsRow.lt (World.ownsRow.alloc (show w5.ownsRow w.heap.size 9 1 (.slice (some ⟨g3, 0, none⟩) m cp3) m _ from by have := HTk5.out; unfold OwnS at this; rw [Hm'.out] at this; exact this) (.cells #[.string (bs (nodeB (rootL b) (rootL last)))] 9)) k hk).1)
              clear hown6 hgrow hat hlt6 hN5 hb5 q1 q2 HTk5 HTk HNd
              change Exit.then _ _ _ (Act.put _ (some 3) _) _
              go_wp2
              refine wp_gen (fun W' => Below w.heap.size w W' ∧ OwnS w.heap.size W' (.slice (some ⟨gg, 0, none⟩) (m + 1) cap) ((init' ++ [b ++ last]).map rootL) ∧ OwnN w.heap.size W' (.slice (some ⟨g4, 0, none⟩) M cp4) ((init' ++ [b] ++ [last]).map List.length)) ⟨hB6, hS6, hN6⟩ ?_
              clear hB5 hB6 hS6 hN6 hz5
              rintro W7 ⟨hB7, hS7, hN7⟩
              have hz7 := hB7.size
              have n7 : W7.drew.cell? ⟨g4, m + 1, none⟩ = some (.int .i64 (last.length : Int)) := HN2c.out W7 hN7
              have HTk7 : Hid (W7.drew.ownsRow w.heap.size 3 1 (.slice (some ⟨g4, 0, none⟩) m cp4) m ((init'.map List.length).map (fun (n : Nat) => Value.int .i64 (n : Int)))) := by
                have h1 := hN7.take m (by simp; have := Hm.out; omega)
                rw [show ((init' ++ [b] ++ [last]).map List.length).take m = init'.map List.length from by rw [Hm.out]; simp] at h1
                unfold OwnN at h1
                rw [List.length_map, ← Hm.out] at h1
                exact h1
              have HB7 := Lib.hid hB7
              have HS7 := Lib.hid hS7
              have hw2 : IntKind.i64.wrap (2 * (last.length : Int)) = 2 * (last.length : Int) := IntWalk.i64_in _ (by omega)
              clear hB7 hS7 hN7
              obtain ⟨i1, hi1, hy0, hy1, hy2⟩ := info_parts infoN1
              refine wp_region_noPanic ?_
              go_region_law ((refine step_append_lies _ (by rfl) _ _ 40 (by rfl) w.heap.size 3 i1 _ 1 8 Tryz.underlying40 hi1 hy0 hy1 hy2 rfl (by omega) (.slice (some ⟨g4, 0, none⟩) m cp4) m _ (by rfl) (World.ownsRow.alloc HTk7.out _) ⟨W7.heap.size, 0, none⟩ 1 1 [.int .i64 (2 * (last.length : Int))] (by rfl) (by rfl) (World.news_of_block (heap_alloc_new W7.drew _)) (by simp [Value.oneCell']) (by omega) (by unfold maxLen; omega) (by omega) (by simp; omega) (W7.heap.size + 1) (by simp) ?_; intro gh caq w8 hown8 hgrow8 hat8 hlt8))
              all_goals
                refine NoPanic.normal ?_
                have hN8 : OwnN w.heap.size w8 (.slice (some ⟨gh, 0, none⟩) (m + 1) caq) ((init' ++ [b ++ last]).map List.length) := by
                  unfold OwnN
                  rw [List.map_append, List.map_singleton, List.length_append, List.length_map, ← Hm.out, List.map_append, List.length_append, HBe.out, show last.length + last.length = 2 * last.length from by omega]
                  exact hown8
                have hS8 : OwnS w.heap.size w8 (.slice (some ⟨gg, 0, none⟩) (m + 1) cap) ((init' ++ [b ++ last]).map rootL) := row_kept (World.ownsRow.alloc (show OwnS w.heap.size W7.drew _ _ from HS7.out) _) (World.ownsRow.alloc HTk7.out _) (by decide) hgrow8
                have hB8 : Below w.heap.size w w8 := (HB7.out.drew.alloc hz7 _).grown hgrow8 (by simp; omega) (fun k hk => (World.ownsRow.lt (World.ownsRow.alloc HTk7.out (.cells #[.int .i64 (2 * (last.length : Int))] 3)) k hk).1)
                have HR8 : Hid (init'.flatten ++ (b ++ last) = l.take (k + 1)) := by show _ = _; rw [← HF.out]; simp
                clear hown8 hgrow8 hat8 hlt8 n7 hw2
                change Exit.inBlock _ _ _ (Act.put _ (some 4) _) _
                go_wp2
                go_roundw
                case rel => exact ⟨init', b ++ last, m + 1, congrArg (Value.int .i64) (by have := HM2.out; omega), by rw [Hm.out], hB8, HJ.out.1, HR8.out, hS8, hN8⟩
                case measure => simp [intOf]; have := HM2.out; omega
          · have heq : (((b.length : Nat) : Int) == ((last.length : Nat) : Int)) = false := by simp; omega
            go_wp2
            go_quiet (fail)
            go_wp2
            go_roundw
            case rel => exact ⟨k + 1, by omega, by go_num, below_drewN0 hBy _, init' ++ [b] ++ [last], HP.out.done hbe, by rw [← HF.out]; simp, HS.out, HN.out⟩
            case measure => simp [intOf]; omega
    · obtain rfl : k = n := by omega
      rw [List.take_of_length_le (by rw [Hn.out]; exact Nat.le_refl _)] at hF
      have HP := Lib.hid hP
      have HF := Lib.hid hF
      have HS := Lib.hid hS
      clear hP hF hS hN hlt hk
      rcases List.eq_nil_or_concat segs with h0 | ⟨init, last, h0⟩
      · subst h0
        obtain ⟨a3, cp3, hv3, _, _⟩ := HS.out.shape2
        rw [show (([] : List (List Bytes)).map rootL).length = 0 from rfl] at hv3
        subst hv3
        have hl : l = [] := by rw [← HF.out]; rfl
        have HR : Hid (rootL l = sha []) := by show _ = _; rw [hl]; rfl
        have HSm := Lib.hid (sum_any (⟨#[]⟩ : ByteArray) wr (by show 0 ≤ _; omega) (HT.out.below hB (Nat.le_refl _)))
        rw [show ((⟨#[]⟩ : ByteArray).data.toList) = [] from rfl] at HSm
        clear hl HS
        go_wp2_with (go_at_call 77; refine HSm.out.mono ?_; rintro e w9 ⟨rfl, hb9⟩)
        refine leaves_marks (B := w.heap.size) [] w9 ⟨by simp, by simp⟩ fun W9 hb' _ => ?_
        exact ⟨_, results_tmp rfl _ _ _, by rw [HR.out]; rfl, (hB.trans (hb9.mono hzB)).trans hb'⟩
      · rw [List.concat_eq_append] at h0
        subst h0
        obtain ⟨g3, cp3, hv3, hg3, hg3', hc3, hc3'⟩ := HS.out.shape3 (by simp)
        obtain ⟨M, hM⟩ : ∃ M, M = init.length := ⟨_, rfl⟩
        have HM := Lib.hid hM
        rw [List.length_map, List.length_append, List.length_singleton, ← hM] at hv3 hc3
        have e3 : ((init ++ [last]).map rootL).getD M [] = rootL last := by rw [hM]; simp [List.getD_eq_getElem?_getD]
        have q1 := fun W (h : OwnS w.heap.size W u3 ((init ++ [last]).map rootL)) => (show OwnS w.heap.size W (.slice (some ⟨g3, 0, none⟩) (M + 1) cp3) ((init ++ [last]).map rootL) from hv3 ▸ h).cell
        have q2 := q1 wr HS.out M (by simp; omega)
        rw [e3] at q2
        have Hq := Lib.hid (q1 wr HS.out)
        have hMb : M ≤ 1000000 := by
          have h1 := map_len_le _ HP.out
          rw [HF.out, Hn.out] at h1
          simp at h1
          omega
        subst hv3
        clear q1 e3 hM
        obtain ⟨N, hN⟩ : ∃ N, N = M + 1 := ⟨_, rfl⟩
        have HN := Lib.hid hN
        have hne : (((N : Nat) : Int) == 0) = false := by simp; omega
        have w1' : IntKind.i64.wrap ((N : Int) - 1) = (N : Int) - 1 := IntWalk.i64_in _ (by omega)
        have z1 : 1 ≤ (N : Int) := by omega
        have y1 : 0 ≤ (N : Int) - 1 := by omega
        have l1 : (N : Int) - 1 < (N : Int) := by omega
        have t1 : ((N : Int) - 1).toNat = M := by omega
        have k1 : (N : Int) - 1 ≤ (cp3 : Int) := by omega
        rw [← hN] at HS hc3 ⊢
        clear hN
        go_wp2_with (go_at_call 78; refine (back_any _ ⟨_, _, _, rfl⟩ _).mono ?_; rintro e w' ⟨rfl, rfl⟩)
        have hr0 : Below wr.heap.size wr ((wr.alloc (.cells #[.string (bs (rootL last))] 9)).alloc (.cells #[.slice (some ⟨g3, 0, none⟩) M cp3] 26)) := ((Below.refl _ _).alloc (Nat.le_refl _) _).alloc (by simp) _
        have hbo : Boxed ((wr.alloc (.cells #[.string (bs (rootL last))] 9)).alloc (.cells #[.slice (some ⟨g3, 0, none⟩) M cp3] 26)) wr.heap.size 9 (.string (bs (rootL last))) := (Boxed.new wr 9 (.string (bs (rootL last)))).alloc _
        have hbs : Boxed ((wr.alloc (.cells #[.string (bs (rootL last))] 9)).alloc (.cells #[.slice (some ⟨g3, 0, none⟩) M cp3] 26)) (wr.heap.size + 1) 26 (.slice (some ⟨g3, 0, none⟩) M cp3) := by
          have := Boxed.new (wr.alloc (.cells #[.string (bs (rootL last))] 9)) 26 (.slice (some ⟨g3, 0, none⟩) M cp3)
          rwa [World.size_alloc] at this
        have hzr : ((wr.alloc (.cells #[.string (bs (rootL last))] 9)).alloc (.cells #[.slice (some ⟨g3, 0, none⟩) M cp3] 26)).heap.size = wr.heap.size + 2 := by simp
        obtain ⟨W2, hW2⟩ : ∃ W2, W2 = (wr.alloc (.cells #[.string (bs (rootL last))] 9)).alloc (.cells #[.slice (some ⟨g3, 0, none⟩) M cp3] 26) := ⟨_, rfl⟩
        rw [← hW2] at hr0 hbo hbs hzr ⊢
        clear hW2
        have HR : Hid (∀ x ∈ (init ++ [last]).map rootL, x.length = 32) := fun x hx => by
          obtain ⟨y, _, rfl⟩ := List.mem_map.1 hx
          exact rootL_length y
        have HBack : Hid (foldB ((init ++ [last]).map rootL) (rootL last) (dn M M) = rootL l) := by
          have h1 := foldB_back HP.out M (by simp; exact HM.out.symm) M (Nat.le_refl _)
          rw [show (init ++ [last]).getD M [] = last from by rw [HM.out]; simp [List.getD_eq_getElem?_getD]] at h1
          show _ = _
          rw [h1, Nat.sub_self, List.drop_zero, HF.out]
        have hRlen : ((init ++ [last]).map rootL).length = M + 1 := by simp; exact HM.out.symm
        have HRlen := Lib.hid hRlen
        clear hRlen
        have hcells : ∀ i, i < M → W2.cell? ⟨g3, 0 + i, none⟩ = some (.string (bs (((init ++ [last]).map rootL).getD i []))) := fun i hi => by
          rw [Nat.zero_add]
          exact (hr0.cell (p := ⟨g3, i, none⟩) hg3').trans (Hq.out i (by rw [HRlen.out]; omega))
        generalize (init ++ [last]).map rootL = R at *
        have hTr : Rounds W2 := (HT.out.below hB (Nat.le_refl _)).below hr0 (Nat.le_refl _)
        have hgl : 0 ≠ wr.heap.size := fun e => by have := (HT.out.below hB (Nat.le_refl _)).lt; omega
        have HTr := Lib.hid hTr
        clear hTr
        refine (wpIn_wide (n := 4)).1 ?_
        refine wpIn_rangeFunc_ownG rfl (by omega) (gf := 103) (lb := #[.pointer (some ⟨wr.heap.size + 1, 0, none⟩)]) rfl trivial (enters_of Tryz.func103 (by kernel_rfl) rfl)
          (back1_seq _ (wr.heap.size + 1) g3 0 M cp3 (some ⟨g3, 0, none⟩) (gB R) (KpBut W2.heap.size wr.heap.size) W2 hbs (by omega) (fun _ => rfl) hcells (fun A B h => h _ (by omega) (by omega)) (fun A B h => h _ (by omega) (by omega))) kpBut_t (kpBut_b (Nat.le_refl _)) (Below.refl _ _) (fun _ => rfl)
          (FoldI R (rootL last) M wr.heap.size W2) (fun _ _ _ => False) (foldI_own _ _ _ _ _ _ (Nat.le_refl _) (by omega)) (fun c => fun _ _ _ _ h => h.elim)
          ⟨hbo, World.grownBy.refl _ _⟩ ?a1 ?assign ?body ?done ?stop
        case assign =>
          intro l' x W' K hK
          gi_wp2
          exact hK
        case stop =>
          rintro D c pre W' _ _ h _
          exact h.elim
        case body =>
          rintro l' pre ⟨x, hx⟩ W' ⟨hbx, hG⟩ hlt
          dsimp only
          have hzG := hG.size
          have hflen := foldB_length R pre (rootL last) (rootL_length _)
          have HNd := Lib.hid (node_any (gB R x) (bs (foldB R (rootL last) pre)) W' (by rw [show (gB R x).size = (R.getD x []).length from bs_size _, HR.out _ (getD_mem' _ _ _ (by rw [HRlen.out]; omega))]; decide) (by rw [bs_size, hflen]; decide) (HTr.out.grown hG hgl))
          rw [bs_list, show (gB R x).data.toList = R.getD x [] from rfl] at HNd
          have HSn := Lib.hid (foldB_snoc R (rootL last) pre ⟨x, hx⟩)
          have cb := hbx.cell
          have HBx := Lib.hid hbx
          have HG := Lib.hid hG
          clear hbx hG hflen
          generalize R.getD x [] = rx at *
          generalize gB R x = rxb at *
          generalize foldB R (rootL last) pre = ox at *
          gi_wp2_with (refine ⟨trivial, ?_⟩; gi_at_call 76; refine (CallsIn.inRound l' (callsIn_wide.2 HNd.out)).mono ?_; rintro e w3 ⟨rfl, hb3⟩; have hb3x : Boxed w3 wr.heap.size 9 (.string (bs ox)) := (hb3.block _ HBx.out.lt).trans HBx.out; have cb3 := hb3x.cell; have fb3 := hb3x.frozen)
          have hg3' : W'.grownBy (w3.setCell ⟨wr.heap.size, 0, none⟩ (.string (bs (nodeB rx ox)))) (some wr.heap.size) := grownBy_set (grown_of_below hb3 _)
          refine ⟨KeepsFrom.of_grownBy hg3' (fun j hj => by cases hj; omega), kpBut_grown hg3' hzG, ?_, HG.out.trans hg3'⟩
          rw [HSn.out]
          exact hb3x.set _
        case done =>
          rintro D xs W' hD rfl ⟨hbx, hG⟩ hK
          rw [HBack.out] at hbx
          have cb := hbx.cell
          have HK := Lib.hid hK
          have hzG := hG.size
          have HG := Lib.hid hG
          clear hK hG hbx
          go_wp2
          have hKD := HK.out
          have hall : Below w.heap.size w W' := ((hB.trans (hr0.mono hzB)).grown HG.out (by omega) (fun k hk => by cases hk; omega))
          refine leaves_marks (B := w.heap.size) [D] W' ⟨by simp, fun D' hD' => ?_⟩ fun W9 hb' _ => ?_
          · rw [List.mem_singleton.1 hD']
            exact ⟨by omega, hKD⟩
          · exact ⟨_, results_tmp rfl _ _ _, rfl, hall.trans hb'⟩
end Go.Proofs.YthfenbdlolbikaaGreatDoor
end

section
/- digest.left and digest.Proof. -/
namespace Go.Proofs.YthfenbdlolbikaaGreatDoor
open Go.RowKit Go.Shelf

theorem StrsAt.take {B : Nat} {w : World} {a : Option Addr} {n c : Nat} {l : List Bytes} (h : StrsAt B w (.slice a n c) l) (m : Nat) (hm : m ≤ l.length) : StrsAt B w (.slice a m c) (l.take m) := by
  obtain ⟨a', c', he, h1, h2, h3⟩ := h
  cases he
  have hl : (l.take m).length = m := by rw [List.length_take]; omega
  refine ⟨a, c, by rw [hl], by omega, h2, fun hp => ?_⟩
  rw [hl] at hp
  obtain ⟨b, off, ha, hb, hc⟩ := h3 (by omega)
  refine ⟨b, off, ha, hb, fun i hi => ?_⟩
  rw [hl] at hi
  rw [hc i (by omega), List.getD_eq_getElem?_getD, List.getD_eq_getElem?_getD, List.getElem?_take, if_pos hi]
theorem StrsAt.drop {B : Nat} {w : World} {b off n c : Nat} {l : List Bytes} (h : StrsAt B w (.slice (some ⟨b, off, none⟩) n c) l) (k : Nat) (hk : k ≤ l.length) : StrsAt B w (.slice (some ⟨b, off + k, none⟩) (n - k) (c - k)) (l.drop k) := by
  obtain ⟨a', c', he, h1, h2, h3⟩ := h
  cases he
  have hl : (l.drop k).length = l.length - k := List.length_drop ..
  refine ⟨_, _, by rw [hl], by omega, by omega, fun hp => ?_⟩
  rw [hl] at hp
  obtain ⟨b', off', ha, hb, hc⟩ := h3 (by omega)
  cases ha
  refine ⟨b, off + k, rfl, hb, fun i hi => ?_⟩
  rw [hl] at hi
  rw [show off + k + i = off + (k + i) from by omega, hc (k + i) (by omega), List.getD_eq_getElem?_getD, List.getD_eq_getElem?_getD, List.getElem?_drop]
theorem StrsAt.addr {B : Nat} {w : World} {a : Option Addr} {n c : Nat} {l : List Bytes} (h : StrsAt B w (.slice a n c) l) (hl : 0 < l.length) : ∃ b off, a = some ⟨b, off, none⟩ := by
  obtain ⟨b, off, ha, _⟩ := h.at 0 hl
  exact ⟨b, off, ha⟩
theorem StrsAt.len {B : Nat} {w : World} {a : Option Addr} {n c : Nat} {l : List Bytes} (h : StrsAt B w (.slice a n c) l) : n = l.length ∧ n ≤ c ∧ c ≤ maxLen := by
  obtain ⟨a', c', he, h1, h2, h3⟩ := h
  cases he
  exact ⟨rfl, h1, h2⟩
/-- All cells of a row are written from o on. -/
def setL (cur : Array Value) : Nat → List Value → Array Value
  | _, [] => cur
  | o, v :: r => setL (cur.setIfInBounds o v) (o + 1) r
theorem setL_size : ∀ (vs : List Value) (o : Nat) (cur : Array Value), (setL cur o vs).size = cur.size
  | [], _, _ => rfl
  | v :: r, o, cur => by unfold setL; rw [setL_size r, Array.size_setIfInBounds]
theorem setL_get : ∀ (vs : List Value) (o : Nat) (cur : Array Value) (i : Nat), o + vs.length ≤ cur.size → (setL cur o vs)[i]? = if o ≤ i ∧ i < o + vs.length then vs[i - o]? else cur[i]?
  | [], o, cur, i, _ => by unfold setL; rw [if_neg (by simp only [List.length_nil]; omega)]
  | v :: r, o, cur, i, h => by
    unfold setL
    rw [setL_get r (o + 1) _ i (by rw [Array.size_setIfInBounds]; simp at h; omega), Array.getElem?_setIfInBounds]
    simp only [List.length_cons] at h ⊢
    by_cases e : o = i
    · subst e
      rw [if_neg (by omega), if_pos rfl, if_pos (by omega), if_pos (by omega), Nat.sub_self]
      rfl
    · by_cases h2 : o + 1 ≤ i ∧ i < o + 1 + r.length
      · rw [if_pos h2, if_pos (by omega), show i - o = (i - (o + 1)) + 1 from by omega, List.getElem?_cons_succ]
      · rw [if_neg h2, if_neg e, if_neg (by omega)]
theorem setCells_heap (g : Nat) (t : TypeId) : ∀ (vs : List Value) (o : Nat) (cur : Array Value) (w : World), w.heap[g]? = some (.cells cur t (0, 0)) → (w.setCells g o vs).heap[g]? = some (.cells (setL cur o vs) t (0, 0))
  | [], _, _, _, h => h
  | v :: r, o, cur, w, h => setCells_heap g t r (o + 1) _ _ (heap_setCell_same w g o cur t v h)
/-- A row of the call's own, turned round. -/
theorem OwnS.reversed {base : Nat} {w : World} {g cap : Nat} {l : List Bytes} (h : OwnS base w (.slice (some ⟨g, 0, none⟩) l.length cap) l) (q : Nat) : OwnS base ((w.drewN q).setCells g 0 (l.reverse.map (fun b => Value.string (bs b)))) (.slice (some ⟨g, 0, none⟩) l.reverse.length cap) l.reverse := by
  rcases h.2 with ⟨h0, _⟩ | ⟨g', cap', cur, heq, hgb, hgg, h1, h2, h3, h4⟩
  · cases h0
  · cases heq
    have hh := setCells_heap g 9 (l.reverse.map (fun b => Value.string (bs b))) 0 cur (w.drewN q) hgg
    refine ⟨by simp, .inr ⟨g, cap, _, rfl, hgb, hh, by simpa using h1, h2, by rw [setL_size]; exact h3, ?_⟩⟩
    apply List.ext_getElem?
    intro i
    rw [List.getElem?_take, Array.getElem?_toList, setL_get _ _ _ _ (by simp; omega)]
    simp only [List.length_map, List.length_reverse, Nat.mul_one, Nat.zero_add, Nat.sub_zero]
    by_cases hi : i < l.length
    · rw [if_pos hi, if_pos (by omega)]
    · rw [if_neg hi, List.getElem?_eq_none (by simp; omega)]
theorem bitLen_log (x : Nat) (h : 0 < x) (h2 : x < 2 ^ 64) : (Lib.bitLen x : Int) = (Nat.log2 x : Int) + 1 := by
  obtain ⟨b1, b2, b3⟩ := Lib.bitLenAux_bounds 64 x h2 (by omega)
  have e : Nat.log2 x = Lib.bitLen x - 1 := (Nat.log2_eq_iff (by omega)).2 ⟨b2, by
    have : Lib.bitLenAux 64 x - 1 + 1 = Lib.bitLenAux 64 x := by omega
    show x < 2 ^ (Lib.bitLenAux 64 x - 1 + 1)
    rw [this]; exact b3⟩
  have b1' : 1 ≤ Lib.bitLen x := b1
  omega
theorem shl_one63 (n : Nat) (hn : n < 63) : wrap64 (2 ^ n) = ((2 ^ n : Nat) : Int) := by
  have h1 : 2 ^ n ≤ 2 ^ 62 := Nat.pow_le_pow_right (by decide) (by omega)
  rw [show (2 : Int) ^ n = ((2 ^ n : Nat) : Int) from by push_cast; rfl]
  unfold wrap64
  generalize 2 ^ n = p at *
  omega
theorem left_any (n : Int) (w : World) (h2 : 2 ≤ n) (hn : n ≤ 9223372036854775807) :
    Calls Tryz.prog 84 #[.int .i64 n] w fun e w' => e = .returned (.int .i64 (leftN n.toNat : Nat)) ∧ w = w' := by
  obtain ⟨m, rfl⟩ := Int.eq_ofNat_of_zero_le (show 0 ≤ n by omega)
  rw [Int.toNat_natCast]
  have HB := Lib.hid (fun W => Tryz.bits_Len ((m : Int) - 1) W (by omega) (by omega))
  rw [show ((m : Int) - 1).toNat = m - 1 from by omega] at HB
  have hl := bitLen_log (m - 1) (by omega) (by omega)
  have hsh := shl_one63 (Nat.log2 (m - 1))
  have hlt : Nat.log2 (m - 1) < 63 := (Nat.log2_lt (by omega)).2 (by omega)
  have HD : Hid (leftN m = 2 ^ Nat.log2 (m - 1)) := rfl
  replace hsh := hsh hlt
  rw [hl] at HB
  clear hl
  generalize Nat.log2 (m - 1) = t at *
  go_enter Tryz.func84, Tryz.ntmps84
  go_wp2_with (go_at_call 106; refine (HB.out _).mono ?_; rintro e w' ⟨rfl, rfl⟩)
  go_ret
  exact ⟨by rw [HD.out, ← hsh]; rfl, rfl⟩
def lenOf : Value → Nat | .slice _ n _ => n | _ => 0
/-- What Proof returns. -/
def proofE (l : List Bytes) (i : Int) : List Bytes × Int := if 0 ≤ i ∧ i < (l.length : Int) then (proofL l i.toNat, 0) else ([], 2)
theorem ownS_free {base : Nat} {w : World} {g n cap : Nat} {l : List Bytes} (h : OwnS base w (.slice (some ⟨g, 0, none⟩) n cap) l) (i : Nat) : w.frozen? ⟨g, i, none⟩ = false := by
  rcases h.2 with ⟨h0, _⟩ | ⟨g', cap', cur, heq, hgb, hgg, _⟩
  · cases h0
  · cases heq
    exact frozen_of_row _ _ i _ _ hgg
theorem strsOf_gB (out : List Bytes) : (Lib.strsOf (gB out) out.length) = out := by
  unfold Lib.strsOf
  apply List.ext_getElem?
  intro i
  rw [List.getElem?_map]
  by_cases hi : i < out.length
  · rw [List.getElem?_range hi, List.getElem?_eq_getElem hi]
    show some (out.getD i []) = _
    rw [List.getD_eq_getElem?_getD, List.getElem?_eq_getElem hi]
    rfl
  · rw [List.getElem?_eq_none (by simp; omega), List.getElem?_eq_none (by omega)]
    rfl
theorem below_of_append {base : Nat} {w1 w' : World} {v : Value} {l : List Bytes} {o : Obj} (hbase : base ≤ w1.heap.size) (hg : (w1.alloc o).grownBy w' v.ownBlock) (h : OwnS base w1 v l) : Below base w1 w' :=
  ⟨hg.os, hg.tape, hg.output, Nat.le_trans (by simp) hg.size, fun k hk => by
    have hz : w1.heap.size < (w1.alloc o).heap.size := by simp
    by_cases hlt : k < w1.heap.size
    · rw [hg.block k (by omega) (fun e => by have := (World.ownsRow.lt h k e.symm).1; omega)]
      exact Below.heap_alloc _ _ _ hlt
    · exact absurd hk (by omega)⟩
set_option maxRecDepth 100000 in
set_option maxHeartbeats 1000000 in
theorem proof_any (v : Value) (l : List Bytes) (i : Int) (w : World) (hL : StrsAt w.heap.size w v l) (hlen : l.length ≤ 1000000) (hel : ∀ x ∈ l, x.length ≤ 274877906944) (hT : Rounds w) :
    Calls Tryz.prog 51 #[v, .int .i64 i] w fun e w' => ∃ vp, e = .returned (.tuple #[vp, .int .i64 (proofE l i).2]) ∧ OwnS w.heap.size w' vp (proofE l i).1 ∧ Below w.heap.size w w' := by
  obtain ⟨av, cv, rfl, hcv1, hcv2⟩ := hL.shape
  unfold maxLen at hcv2
  have HE : Hid (proofE l i = if 0 ≤ i ∧ i < (l.length : Int) then (proofL l i.toNat, 0) else ([], 2)) := rfl
  have HL := Lib.hid hL
  have HEl := Lib.hid hel
  have HT := Lib.hid hT
  clear hL hel hT
  generalize hn : l.length = n at *
  have Hn := Lib.hid hn
  clear hn
  by_cases h0 : 0 ≤ i
  · by_cases h1 : i < (n : Int)
    · rw [if_pos ⟨h0, h1⟩] at HE
      obtain ⟨j, rfl⟩ := Int.eq_ofNat_of_zero_le h0
      rw [Int.toNat_natCast] at HE
      have d0 : decide ((j : Int) < 0) = false := by simp
      have d1 : decide (n ≤ j) = false := by simp; omega
      go_enter Tryz.func51, Tryz.ntmps51
      go_wp2
      go_step3
      go_wp2
      go_step3
      go_wp2
      clear d0 d1 h0
      have hjn : j < n := by omega
      clear h1
      go_loopw [0, 1, 6] (fun v0 v1 v6 wr => ∃ (l' : List Bytes) (i' : Nat) (out : List Bytes), v1 = .int .i64 i' ∧ StrsAt w.heap.size wr v0 l' ∧ i' < l'.length ∧ l'.length ≤ n ∧ (∀ x ∈ l', x ∈ l) ∧ OwnS w.heap.size wr v6 out ∧ out.length + l'.length ≤ n ∧ Hid (proofL l j = proofL l' i' ++ out.reverse) ∧ Below w.heap.size w wr) (fun v0 _ _ _ => lenOf v0)
      case atStart => exact ⟨l, j, [], rfl, HL.out, by rw [Hn.out]; exact hjn, by rw [Hn.out]; exact Nat.le_refl _, fun x hx => hx, OwnS.nil _ _, by rw [Hn.out]; simp, by show _ = _; simp, Below.refl _ _⟩
      case round =>
        obtain ⟨l', i', out, rfl, hS, hi', hl'n, hsub, hO, hol, HPr, hB⟩ := hrel
        obtain ⟨a0, c0, hv0, hc1, hc2⟩ := hS.shape
        unfold maxLen at hc2
        have hzB := hB.size
        have HSub := Lib.hid hsub
        have HO := Lib.hid hO
        clear hsub hO
        generalize hN : l'.length = N at *
        have HN := Lib.hid hN
        clear hN
        subst hv0
        have HS := Lib.hid hS
        by_cases hN1 : N = 1
        · have dN : (((N : Nat) : Int) == 1) = true := by simp [hN1]
          have HP1 : Hid (proofL l j = out.reverse) := by show _ = _; rw [HPr.out, proofL_one (by rw [HN.out]; omega)]; rfl
          clear hN1
          rcases HO.out.shape with ⟨h6, h7⟩ | ⟨g6, cp6, h6, h7, h8, _, _⟩
          · subst h6
            have HRv := Lib.hid (Tryz.slices_Reverse_string_empty none 0 wr)
            go_wp2_with (go_at_call 85; refine HRv.out.mono ?_; rintro e w2 ⟨rfl, hw2⟩; subst hw2)
            rw [Exit.noGoto_ret]
            go_ret2
            exact ⟨_, by rw [HE.out]; rfl, by rw [HE.out]; show OwnS _ _ _ (proofL l j); rw [HP1.out, h7]; exact OwnS.nil _ _, hB⟩
          · have HRv := Lib.hid (Tryz.slices_Reverse_string_cells g6 0 out.length cp6 (gB out) wr (by omega) (fun i hi => by rw [Nat.zero_add]; exact (show OwnS w.heap.size wr (.slice (some ⟨g6, 0, none⟩) out.length cp6) out from h6 ▸ HO.out).cell i hi) (fun i hi => by rw [Nat.zero_add]; exact ownS_free (show OwnS w.heap.size wr (.slice (some ⟨g6, 0, none⟩) out.length cp6) out from h6 ▸ HO.out) i))
            have HRw := Lib.hid (fun q => (show OwnS w.heap.size wr (.slice (some ⟨g6, 0, none⟩) out.length cp6) out from h6 ▸ HO.out).reversed q)
            rw [strsOf_gB] at HRv
            generalize hol2 : out.length = ol at *
            have HOl := Lib.hid hol2
            clear hol2
            subst h6
            go_wp2_with (go_at_call 85; refine HRv.out.mono ?_; rintro e w2 ⟨rfl, q, hw2⟩; have Hw2 := Lib.hid hw2; clear hw2)
            rw [Exit.noGoto_ret]
            go_ret2
            exact ⟨_, by rw [HE.out]; rfl, by rw [HE.out]; show OwnS _ _ _ (proofL l j); rw [HP1.out, Hw2.out]; have := HRw.out q; rw [List.length_reverse, HOl.out] at this; exact this, by rw [Hw2.out]; exact below_setCells _ _ (below_drewN0 hB q) h7⟩
        · have dN : (((N : Nat) : Int) == 1) = false := by simp; omega
          obtain ⟨b0, off, ha0⟩ := hS.addr (by rw [HN.out]; omega)
          subst ha0
          have hb := leftN_bd (n := N) (by omega)
          have hLf := fun W => left_any (N : Int) W (by omega) (by omega)
          have HLf := Lib.hid hLf
          rw [Int.toNat_natCast] at HLf
          have HLo := Lib.hid (fun (h : i' < leftN l'.length) => proofL_lo (l := l') (i := i') (by rw [HN.out]; omega) h)
          have HHi := Lib.hid (fun (h : ¬ i' < leftN l'.length) => proofL_hi (l := l') (i := i') (by rw [HN.out]; omega) h)
          rw [HN.out] at HLo HHi
          generalize leftN N = K at *
          clear hLf hS
          have HTk := Lib.hid (HS.out.take K (by rw [HN.out]; omega))
          have HDr := Lib.hid (HS.out.drop K (by rw [HN.out]; omega))
          have e1 : (0 : Int) ≤ (K : Int) := by omega
          have e2 : (K : Int) ≤ (N : Int) := by omega
          have e3 : (K : Int) ≤ (c0 : Int) := by omega
          have e4 : (N : Int) ≤ (c0 : Int) := by omega
          by_cases hik : i' < K
          · have dk : decide (K ≤ i') = false := by simp; omega
            go_wp2_with (go_at_call 84; refine (HLf.out _).mono ?_; rintro e w' ⟨rfl, rfl⟩)
            go_quiet (fail)
            go_wp2_with fail
            refine (root_any _ (l'.drop K) _ (show StrsAt (wr.drewN _).heap.size (wr.drewN _) _ _ from HDr.out.mono hzB) (by rw [List.length_drop, HN.out]; omega) (fun x hx => HEl.out x (HSub.out x (List.mem_of_mem_drop hx))) (HT.out.below (below_drewN0 hB _) (Nat.le_refl _))).mono ?_
            rintro e w2 ⟨rfl, hb2⟩
            have hb2' : Below wr.heap.size wr w2 := (below_drewN0 (Below.refl _ _) _).trans hb2
            have hz2 := hb2'.size
            have HB2 : Hid (Below w.heap.size w w2) := hB.trans (hb2'.mono hzB)
            have HO2 := Lib.hid (HO.out.below hb2' (Nat.le_refl _))
            have HTk2 := Lib.hid (HTk.out.below hb2' hzB)
            clear hb2 HO HTk
            go_wp2_with (at_builtin; refine append_S rfl _ _ rfl w.heap.size u6 out (rootL (l'.drop K)) rfl rfl HO2.out (by omega) (by omega) w HB2.out ?_; intro v5 w3 hO3 hg3 hb3)
            go_roundw
            case rel => exact ⟨l'.take K, i', out ++ [rootL (l'.drop K)], rfl, HTk2.out.below (below_of_append (by omega) hg3 HO2.out) (Nat.le_refl _), by rw [List.length_take, HN.out]; omega, by rw [List.length_take, HN.out]; omega, fun x hx => HSub.out x (List.mem_of_mem_take hx), hO3, by rw [List.length_append, List.length_singleton, List.length_take, HN.out]; omega, by show _ = _; rw [HPr.out, HLo.out hik]; simp, hb3⟩
            case measure => simp [lenOf]; omega
          · have dk : decide (K ≤ i') = true := by simp; omega
            have dw : IntKind.i64.wrap ((i' : Int) - (K : Int)) = (i' : Int) - (K : Int) := IntWalk.i64_in _ (by omega)
            go_wp2_with (go_at_call 84; refine (HLf.out _).mono ?_; rintro e w' ⟨rfl, rfl⟩)
            go_quiet (fail)
            go_wp2_with fail
            refine (root_any _ (l'.take K) _ (show StrsAt (wr.drewN _).heap.size (wr.drewN _) _ _ from HTk.out.mono hzB) (by rw [List.length_take, HN.out]; omega) (fun x hx => HEl.out x (HSub.out x (List.mem_of_mem_take hx))) (HT.out.below (below_drewN0 hB _) (Nat.le_refl _))).mono ?_
            rintro e w2 ⟨rfl, hb2⟩
            have hb2' : Below wr.heap.size wr w2 := (below_drewN0 (Below.refl _ _) _).trans hb2
            have hz2 := hb2'.size
            have HB2 : Hid (Below w.heap.size w w2) := hB.trans (hb2'.mono hzB)
            have HO2 := Lib.hid (HO.out.below hb2' (Nat.le_refl _))
            have HDr2 := Lib.hid (HDr.out.below hb2' hzB)
            clear hb2 HO HDr
            go_wp2_with (at_builtin; refine append_S rfl _ _ rfl w.heap.size u6 out (rootL (l'.take K)) rfl rfl HO2.out (by omega) (by omega) w HB2.out ?_; intro v5 w3 hO3 hg3 hb3)
            go_roundw
            case rel => exact ⟨l'.drop K, i' - K, out ++ [rootL (l'.take K)], congrArg (Value.int .i64) (by omega), HDr2.out.below (below_of_append (by omega) hg3 HO2.out) (Nat.le_refl _), by rw [List.length_drop, HN.out]; omega, by rw [List.length_drop, HN.out]; omega, fun x hx => HSub.out x (List.mem_of_mem_drop hx), hO3, by rw [List.length_append, List.length_singleton, List.length_drop, HN.out]; omega, by show _ = _; rw [HPr.out, HHi.out hik]; simp, hb3⟩
            case measure => simp [lenOf]; omega
    · rw [if_neg (fun h => h1 h.2)] at HE
      have d0 : decide (i < 0) = false := by simp; omega
      have d1 : decide ((n : Int) ≤ i) = true := by simp; omega
      go_enter Tryz.func51, Tryz.ntmps51
      go_wp2
      go_step3
      go_wp2
      rw [Exit.noGoto_ret]
      go_ret2
      exact ⟨_, by rw [HE.out]; rfl, by rw [HE.out]; exact OwnS.nil _ _, Below.refl _ _⟩
  · rw [if_neg (fun h => h0 h.1)] at HE
    have d0 : decide (i < 0) = true := by simp; omega
    go_enter Tryz.func51, Tryz.ntmps51
    go_wp2
    go_step3
    go_wp2
    rw [Exit.noGoto_ret]
    go_ret2
    exact ⟨_, by rw [HE.out]; rfl, by rw [HE.out]; exact OwnS.nil _ _, Below.refl _ _⟩
end Go.Proofs.YthfenbdlolbikaaGreatDoor
end

section
/- digest.Extension. -/
namespace Go.Proofs.YthfenbdlolbikaaGreatDoor
open Go.RowKit Go.Shelf

theorem rev_any (base : Nat) (v : Value) (out : List Bytes) (w : World) (h : OwnS base w v out) (hlen : out.length ≤ 2000000) :
    Calls Tryz.prog 85 #[v] w fun e w' => e = .returned (.tuple #[]) ∧ OwnS base w' v out.reverse ∧ ∀ B w0, B ≤ base → Below B w0 w → Below B w0 w' := by
  rcases h.shape with ⟨rfl, rfl⟩ | ⟨g6, cp6, rfl, h7, h8, _, _⟩
  · refine (Tryz.slices_Reverse_string_empty none 0 w).mono ?_
    rintro e w2 ⟨rfl, rfl⟩
    exact ⟨rfl, h, fun B w0 _ hb => hb⟩
  · have h1 := Tryz.slices_Reverse_string_cells g6 0 out.length cp6 (gB out) w (by omega) (fun i hi => by rw [Nat.zero_add]; exact h.cell i hi) (fun i hi => by rw [Nat.zero_add]; exact ownS_free h i)
    rw [strsOf_gB] at h1
    refine h1.mono ?_
    rintro e w2 ⟨rfl, q, rfl⟩
    have h2 := h.reversed q
    rw [List.length_reverse] at h2
    exact ⟨rfl, h2, fun B w0 hB hb => below_setCells _ _ (below_drewN0 hb q) (Nat.le_trans hB h7)⟩
/-- What Extension returns. -/
def extE (l : List Bytes) (m : Int) : List Bytes × Int := if 0 ≤ m ∧ m ≤ (l.length : Int) then (if m = 0 then ([], 0) else (partL l m.toNat true, 0)) else ([], 2)
set_option maxRecDepth 100000 in
set_option maxHeartbeats 1000000 in
theorem ext_any (v : Value) (l : List Bytes) (i : Int) (w : World) (hL : StrsAt w.heap.size w v l) (hlen : l.length ≤ 1000000) (hel : ∀ x ∈ l, x.length ≤ 274877906944) (hT : Rounds w) :
    Calls Tryz.prog 53 #[v, .int .i64 i] w fun e w' => ∃ vp, e = .returned (.tuple #[vp, .int .i64 (extE l i).2]) ∧ OwnS w.heap.size w' vp (extE l i).1 ∧ Below w.heap.size w w' := by
  obtain ⟨av, cv, rfl, hcv1, hcv2⟩ := hL.shape
  unfold maxLen at hcv2
  have HE : Hid (extE l i = if 0 ≤ i ∧ i ≤ (l.length : Int) then (if i = 0 then ([], 0) else (partL l i.toNat true, 0)) else ([], 2)) := rfl
  have HL := Lib.hid hL
  have HEl := Lib.hid hel
  have HT := Lib.hid hT
  clear hL hel hT
  generalize hn : l.length = n at *
  have Hn := Lib.hid hn
  clear hn
  by_cases h0 : 0 ≤ i
  · by_cases h1 : i ≤ (n : Int)
    · rw [if_pos ⟨h0, h1⟩] at HE
      obtain ⟨j, rfl⟩ := Int.eq_ofNat_of_zero_le h0
      rw [Int.toNat_natCast] at HE
      have d0 : decide ((j : Int) < 0) = false := by simp
      have d1 : decide (n < j) = false := by simp; omega
      by_cases hj0 : j = 0
      · subst hj0
        rw [if_pos (show ((0 : Nat) : Int) = 0 from rfl)] at HE
        go_enter Tryz.func53, Tryz.ntmps53
        go_wp2
        go_ret2
        exact ⟨_, by rw [HE.out]; rfl, by rw [HE.out]; exact OwnS.nil _ _, Below.refl _ _⟩
      · rw [if_neg (by omega)] at HE
        have d2 : (((j : Nat) : Int) == 0) = false := by simp; omega
        go_enter Tryz.func53, Tryz.ntmps53
        go_wp2
        clear d0 d1 d2 h0
        go_loopw [0, 1, 6, 7] (fun v0 v1 v6 v7 wr => ∃ (l' : List Bytes) (m : Nat) (out : List Bytes) (wh : Bool), v1 = .int .i64 m ∧ v7 = .bool wh ∧ StrsAt w.heap.size wr v0 l' ∧ 1 ≤ m ∧ m ≤ l'.length ∧ l'.length ≤ n ∧ (∀ x ∈ l', x ∈ l) ∧ OwnS w.heap.size wr v6 out ∧ out.length + l'.length ≤ n ∧ Hid (partL l j true = partL l' m wh ++ out.reverse) ∧ Below w.heap.size w wr) (fun v0 _ _ _ _ => lenOf v0)
        case atStart => exact ⟨l, j, [], true, rfl, rfl, HL.out, by omega, by rw [Hn.out]; omega, by rw [Hn.out]; exact Nat.le_refl _, fun x hx => hx, OwnS.nil _ _, by rw [Hn.out]; simp, by show _ = _; simp, Below.refl _ _⟩
        case round =>
          obtain ⟨l', m, out, wh, rfl, rfl, hS, hm1, hml, hl'n, hsub, hO, hol, HPr, hB⟩ := hrel
          obtain ⟨a0, c0, hv0, hc1, hc2⟩ := hS.shape
          unfold maxLen at hc2
          have hzB := hB.size
          have HSub := Lib.hid hsub
          have HO := Lib.hid hO
          clear hsub hO
          generalize hN : l'.length = N at *
          have HN := Lib.hid hN
          clear hN
          subst hv0
          have HS := Lib.hid hS
          by_cases hN1 : m = N
          · have HP1 : Hid (partL l j true = (if wh then [] else [rootL l']) ++ out.reverse) := by show _ = _; rw [HPr.out, partL_all hm1 (by rw [HN.out]; exact hN1)]
            have hlt : ¬ (m : Int) < (N : Int) := by omega
            have hlt' : ¬ m < N := by omega
            cases wh
            · go_wp2_with fail
              refine (root_any _ l' _ (HS.out.mono hzB) (by rw [HN.out]; omega) (fun x hx => HEl.out x (HSub.out x hx)) (HT.out.below hB (Nat.le_refl _))).mono ?_
              rintro e w2 ⟨rfl, hb2⟩
              have hz2 := hb2.size
              have HB2 : Hid (Below w.heap.size w w2) := hB.trans (hb2.mono hzB)
              have HO2 := Lib.hid (HO.out.below hb2 (Nat.le_refl _))
              clear hb2 HO
              go_wp2_with (first | (at_builtin; refine append_S rfl _ _ rfl w.heap.size u6 out (rootL l') rfl rfl HO2.out (by omega) (by omega) w HB2.out ?_; intro v5 w3 hO3 hg3 hb3; have HRv := Lib.hid (rev_any w.heap.size v5 _ w3 hO3 (by rw [List.length_append, List.length_singleton]; omega))) | (go_at_call 85; refine HRv.out.mono ?_; rintro e w4 ⟨rfl, hO4, hb4⟩))
              go_ret2
              exact ⟨_, by rw [HE.out]; rfl, by rw [HE.out]; show OwnS _ _ _ (partL l j true); rw [HP1.out]; rw [List.reverse_append] at hO4; exact hO4, hb4 _ _ (Nat.le_refl _) hb3⟩
            · have HRv := Lib.hid (rev_any w.heap.size u6 _ wr HO.out (by omega))
              go_wp2_with (go_at_call 85; refine HRv.out.mono ?_; rintro e w4 ⟨rfl, hO4, hb4⟩)
              go_ret2
              exact ⟨_, by rw [HE.out]; rfl, by rw [HE.out]; show OwnS _ _ _ (partL l j true); rw [HP1.out]; exact hO4, hb4 _ _ (Nat.le_refl _) hB⟩
          · have hlt : m < N := by omega
            obtain ⟨b0, off, ha0⟩ := hS.addr (by rw [HN.out]; omega)
            subst ha0
            have hb := leftN_bd (n := N) (by omega)
            have hLf := fun W => left_any (N : Int) W (by omega) (by omega)
            have HLf := Lib.hid hLf
            rw [Int.toNat_natCast] at HLf
            have HLo := Lib.hid (fun (h : m ≤ leftN l'.length) => partL_lo (l := l') (whole := wh) hm1 (by rw [HN.out]; omega) h)
            have HHi := Lib.hid (fun (h : ¬ m ≤ leftN l'.length) => partL_hi (l := l') (whole := wh) hm1 (by rw [HN.out]; omega) h)
            rw [HN.out] at HLo HHi
            generalize leftN N = K at *
            clear hLf hS
            have HTk := Lib.hid (HS.out.take K (by rw [HN.out]; omega))
            have HDr := Lib.hid (HS.out.drop K (by rw [HN.out]; omega))
            have e1 : (0 : Int) ≤ (K : Int) := by omega
            have e2 : (K : Int) ≤ (N : Int) := by omega
            have e3 : (K : Int) ≤ (c0 : Int) := by omega
            have e4 : (N : Int) ≤ (c0 : Int) := by omega
            by_cases hik : m ≤ K
            · have dk : decide (K < m) = false := by simp; omega
              go_wp2_with (go_at_call 84; refine (HLf.out _).mono ?_; rintro e w' ⟨rfl, rfl⟩)
              go_quiet (fail)
              go_wp2_with fail
              refine (root_any _ (l'.drop K) _ (show StrsAt (wr.drewN _).heap.size (wr.drewN _) _ _ from HDr.out.mono hzB) (by rw [List.length_drop, HN.out]; omega) (fun x hx => HEl.out x (HSub.out x (List.mem_of_mem_drop hx))) (HT.out.below (below_drewN0 hB _) (Nat.le_refl _))).mono ?_
              rintro e w2 ⟨rfl, hb2⟩
              have hb2' : Below wr.heap.size wr w2 := (below_drewN0 (Below.refl _ _) _).trans hb2
              have hz2 := hb2'.size
              have HB2 : Hid (Below w.heap.size w w2) := hB.trans (hb2'.mono hzB)
              have HO2 := Lib.hid (HO.out.below hb2' (Nat.le_refl _))
              have HTk2 := Lib.hid (HTk.out.below hb2' hzB)
              clear hb2 HO HTk
              go_wp2_with (at_builtin; refine append_S rfl _ _ rfl w.heap.size u6 out (rootL (l'.drop K)) rfl rfl HO2.out (by omega) (by omega) w HB2.out ?_; intro v5 w3 hO3 hg3 hb3)
              go_roundw
              case rel => exact ⟨l'.take K, m, out ++ [rootL (l'.drop K)], wh, rfl, rfl, HTk2.out.below (below_of_append (by omega) hg3 HO2.out) (Nat.le_refl _), hm1, by rw [List.length_take, HN.out]; omega, by rw [List.length_take, HN.out]; omega, fun x hx => HSub.out x (List.mem_of_mem_take hx), hO3, by rw [List.length_append, List.length_singleton, List.length_take, HN.out]; omega, by show _ = _; rw [HPr.out, HLo.out hik]; simp, hb3⟩
              case measure => simp [lenOf]; omega
            · have dk : decide (K < m) = true := by simp; omega
              have dw : IntKind.i64.wrap ((m : Int) - (K : Int)) = (m : Int) - (K : Int) := IntWalk.i64_in _ (by omega)
              go_wp2_with (go_at_call 84; refine (HLf.out _).mono ?_; rintro e w' ⟨rfl, rfl⟩)
              go_quiet (fail)
              go_wp2_with fail
              refine (root_any _ (l'.take K) _ (show StrsAt (wr.drewN _).heap.size (wr.drewN _) _ _ from HTk.out.mono hzB) (by rw [List.length_take, HN.out]; omega) (fun x hx => HEl.out x (HSub.out x (List.mem_of_mem_take hx))) (HT.out.below (below_drewN0 hB _) (Nat.le_refl _))).mono ?_
              rintro e w2 ⟨rfl, hb2⟩
              have hb2' : Below wr.heap.size wr w2 := (below_drewN0 (Below.refl _ _) _).trans hb2
              have hz2 := hb2'.size
              have HB2 : Hid (Below w.heap.size w w2) := hB.trans (hb2'.mono hzB)
              have HO2 := Lib.hid (HO.out.below hb2' (Nat.le_refl _))
              have HDr2 := Lib.hid (HDr.out.below hb2' hzB)
              clear hb2 HO HDr
              go_wp2_with (at_builtin; refine append_S rfl _ _ rfl w.heap.size u6 out (rootL (l'.take K)) rfl rfl HO2.out (by omega) (by omega) w HB2.out ?_; intro v5 w3 hO3 hg3 hb3)
              go_roundw
              case rel => exact ⟨l'.drop K, m - K, out ++ [rootL (l'.take K)], false, congrArg (Value.int .i64) (by omega), rfl, HDr2.out.below (below_of_append (by omega) hg3 HO2.out) (Nat.le_refl _), by omega, by rw [List.length_drop, HN.out]; omega, by rw [List.length_drop, HN.out]; omega, fun x hx => HSub.out x (List.mem_of_mem_drop hx), hO3, by rw [List.length_append, List.length_singleton, List.length_drop, HN.out]; omega, by show _ = _; rw [HPr.out, HHi.out hik]; simp, hb3⟩
              case measure => simp [lenOf]; omega
    · rw [if_neg (fun h => h1 h.2)] at HE
      have d0 : decide (i < 0) = false := by simp; omega
      have d1 : decide ((n : Int) < i) = true := by simp; omega
      go_enter Tryz.func53, Tryz.ntmps53
      go_wp2
      go_ret2
      exact ⟨_, by rw [HE.out]; rfl, by rw [HE.out]; exact OwnS.nil _ _, Below.refl _ _⟩
  · rw [if_neg (fun h => h0 h.1)] at HE
    have d0 : decide (i < 0) = true := by simp; omega
    go_enter Tryz.func53, Tryz.ntmps53
    go_wp2
    go_ret2
    exact ⟨_, by rw [HE.out]; rfl, by rw [HE.out]; exact OwnS.nil _ _, Below.refl _ _⟩
end Go.Proofs.YthfenbdlolbikaaGreatDoor
end

section
/- slices.IndexFunc and ContainsFunc at []string with a closure that only computes; digest.all, take, side.join. -/
namespace Go.Proofs.YthfenbdlolbikaaGreatDoor
open Go.RowKit Go.Shelf

/-- The first place that has a property. -/
def FirstAt (q : Nat → Bool) (n : Nat) (r : Int) : Prop := (∃ i : Nat, i < n ∧ q i = true ∧ (∀ j, j < i → q j = false) ∧ r = i) ∨ ((∀ j, j < n → q j = false) ∧ r = -1)
theorem FirstAt.any {q : Nat → Bool} {n : Nat} {r : Int} (h : FirstAt q n r) : decide (0 ≤ r) = (List.range n).any q := by
  rcases h with ⟨i, h1, h2, _, rfl⟩ | ⟨h1, rfl⟩
  · rw [List.any_eq_true.2 ⟨i, List.mem_range.2 h1, h2⟩]
    simp
  · rw [show (List.range n).any q = false from List.any_eq_false.2 fun j hj => by simp [h1 j (List.mem_range.1 hj)]]
    simp
theorem any_range {α : Type} (p : α → Bool) (d : α) (l : List α) : (List.range l.length).any (fun i => p (l.getD i d)) = l.any p := by
  rw [Bool.eq_iff_iff, List.any_eq_true, List.any_eq_true]
  constructor
  · rintro ⟨i, hi, h⟩
    have hi := List.mem_range.1 hi
    rw [List.getD_eq_getElem?_getD, List.getElem?_eq_getElem hi] at h
    exact ⟨_, List.getElem_mem hi, h⟩
  · rintro ⟨x, hx, h⟩
    obtain ⟨i, hi, rfl⟩ := List.getElem_of_mem hx
    exact ⟨i, List.mem_range.2 hi, by rw [List.getD_eq_getElem?_getD, List.getElem?_eq_getElem hi]; exact h⟩
set_option maxRecDepth 100000 in
set_option maxHeartbeats 1000000 in
theorem indexStr (g : Nat) (lb : Array Value) (eg : ∀ args w, (callFunc g args).run Tryz.prog w = .ok (.enter g args) w) (v : Value) (l : List Bytes) (w : World) (q : Nat → Bool) (hl : StrsAt w.heap.size w v l)
    (hcall : ∀ i, i < l.length → Calls Tryz.prog g (#[.string (bs (l.getD i []))] ++ lb) w fun e w' => e = .returned (.bool (q i)) ∧ w = w') :
    Calls Tryz.prog 119 #[v, .func (.func g) #[] lb] w fun e w' => ∃ r, e = .returned (.int .i64 r) ∧ FirstAt q l.length r ∧ w = w' := by
  obtain ⟨a, c, rfl, hlc, hcm⟩ := hl.shape
  unfold maxLen at hcm
  have HL := Lib.hid hl
  have HA := Lib.hid hcall
  clear hl hcall
  generalize hn : l.length = n at *
  have Hn := Lib.hid hn
  clear hn
  go_enter Tryz.func119, Tryz.ntmps119
  go_wp2
  go_loop [8] (fun s => ∃ k : Nat, k ≤ n ∧ s = .int .i64 k ∧ Hid (∀ j, j < k → q j = false)) (fun s => n - (intOf s).toNat)
  case atStart => exact ⟨0, Nat.zero_le _, rfl, fun j hj => by omega⟩
  case round =>
    obtain ⟨k, hk, rfl, HQ⟩ := hrel
    by_cases hlt : k < n
    · obtain ⟨b, off, rfl, hb, c1⟩ := HL.out.at k (by rw [Hn.out]; exact hlt)
      have hc := HA.out k hlt
      have kk : (k : Int) < (n : Int) := by omega
      generalize l.getD k [] = z at c1 hc
      cases hq : q k
      all_goals
        rw [hq] at hc
        have HQ' := Lib.hid hq
        clear hq
        go_wp2_with (go_at_fn g; refine hc.mono ?_; rintro e w' ⟨rfl, rfl⟩)
      · go_round
        case rel =>
          refine ⟨k + 1, by omega, by go_num, (show _ from fun j hj => ?_)⟩
          by_cases e : j = k
          · subst e; exact HQ'.out
          · exact HQ.out j (by omega)
        case measure => simp [intOf]; omega
      · go_ret
        exact ⟨k, rfl, .inl ⟨k, hlt, HQ'.out, HQ.out, rfl⟩, rfl⟩
    · obtain rfl : k = n := by omega
      go_wp2
      go_ret
      exact ⟨-1, rfl, .inr ⟨HQ.out, rfl⟩, rfl⟩
theorem containsStr (g : Nat) (lb : Array Value) (eg : ∀ args w, (callFunc g args).run Tryz.prog w = .ok (.enter g args) w) (v : Value) (l : List Bytes) (w : World) (q : Nat → Bool) (hl : StrsAt w.heap.size w v l)
    (hcall : ∀ i, i < l.length → Calls Tryz.prog g (#[.string (bs (l.getD i []))] ++ lb) w fun e w' => e = .returned (.bool (q i)) ∧ w = w') :
    Calls Tryz.prog 108 #[v, .func (.func g) #[] lb] w fun e w' => e = .returned (.bool ((List.range l.length).any q)) ∧ w = w' := by
  have hI := indexStr g lb eg v l w q hl hcall
  clear hl hcall
  go_enter Tryz.func108, Tryz.ntmps108
  go_wp2_with (go_at_call 119; refine hI.mono ?_; rintro e w' ⟨r, rfl, hr, rfl⟩)
  go_ret
  exact ⟨by rw [← hr.any]; rfl, rfl⟩
theorem isDigest_any (s : ByteArray) (w : World) : Calls Tryz.prog 88 #[.string s] w fun e w' => e = .returned (.bool (decide (s.size = 32))) ∧ w = w' := by
  have h : (((s.size : Nat) : Int) == 32) = decide (s.size = 32) := by
    rw [Bool.eq_iff_iff]; simp; omega
  have H := Lib.hid h
  clear h
  go_enter Tryz.func88, Tryz.ntmps88
  go_wp2
  go_ret
  exact ⟨by rw [← H.out]; rfl, rfl⟩
theorem all1_any (s : ByteArray) (w : World) : Calls Tryz.prog 107 #[.string s] w fun e w' => e = .returned (.bool (!decide (s.size = 32))) ∧ w = w' := by
  go_enter Tryz.func107, Tryz.ntmps107
  cases h : decide (s.size = 32)
  all_goals
    have H := Lib.hid h
    clear h
    go_wp2_with (go_at_call 88; refine (isDigest_any s _).mono ?_; rintro e w' ⟨rfl, rfl⟩; rw [H.out])
    go_ret
    exact ⟨rfl, rfl⟩
theorem egAll (args : Array Value) (w : World) : (callFunc 107 args).run Tryz.prog w = .ok (.enter 107 args) w := enters_of Tryz.func107 (by kernel_rfl) rfl args w
theorem all_any (v : Value) (l : List Bytes) (w : World) (hl : StrsAt w.heap.size w v l) :
    Calls Tryz.prog 87 #[v] w fun e w' => e = .returned (.bool (digB l)) ∧ w = w' := by
  have hc := containsStr 107 #[] egAll v l w (fun i => !decide ((bs (l.getD i [])).size = 32)) hl (fun i _ => all1_any _ w)
  have he : ((List.range l.length).any fun i => !decide ((bs (l.getD i [])).size = 32)) = !digB l := by
    have := any_range (fun x : Bytes => !decide ((bs x).size = 32)) [] l
    rw [this]
    unfold digB
    rw [Bool.eq_iff_iff]
    simp [bs_size]
  rw [he] at hc
  obtain ⟨a, c, rfl, _⟩ := hl.shape
  clear he hl
  generalize digB l = d at *
  cases d
  all_goals
    go_enter Tryz.func87, Tryz.ntmps87
    go_wp2_with (go_at_call 108; refine hc.mono ?_; rintro e w' ⟨rfl, rfl⟩)
    go_ret
    exact ⟨rfl, rfl⟩
theorem take_none (a : Option Addr) (c : Nat) (w : World) : Calls Tryz.prog 89 #[.slice a 0 c] w fun e w' => e = .returned (.tuple #[.string (⟨#[]⟩ : ByteArray), .slice none 0 0, .bool false]) ∧ w = w' := by
  go_enter Tryz.func89, Tryz.ntmps89
  go_wp2
  go_ret3
  exact ⟨rfl, rfl⟩
theorem take_some (b off n c : Nat) (x : ByteArray) (w : World) (hn : 0 < n) (hnc : n ≤ c) (hc63 : c ≤ 9223372036854775807) (hx : w.cell? ⟨b, off + (n - 1), none⟩ = some (.string x)) :
    Calls Tryz.prog 89 #[.slice (some ⟨b, off, none⟩) n c] w fun e w' => e = .returned (.tuple #[.string x, .slice (some ⟨b, off, none⟩) (n - 1) c, .bool true]) ∧ ∃ q, w' = w.drewN q := by
  have d0 : (((n : Nat) : Int) == 0) = false := by simp; omega
  have w1 : IntKind.i64.wrap ((n : Int) - 1) = (n : Int) - 1 := IntWalk.i64_in _ (by omega)
  have z1 : 1 ≤ (n : Int) := by omega
  have y1 : 0 ≤ (n : Int) - 1 := by omega
  have l1 : (n : Int) - 1 < (n : Int) := by omega
  have t1 : ((n : Int) - 1).toNat = n - 1 := by omega
  have k1 : (n : Int) - 1 ≤ (c : Int) := by omega
  clear hn hnc
  go_enter Tryz.func89, Tryz.ntmps89
  go_wp2
  go_quiet (fail)
  go_wp2
  go_ret3
  exact ⟨rfl, _, rfl⟩
/-- The digest of the whole. -/
def joinB (x : Bytes × Bool) (p : Bytes) : Bytes := if x.2 then nodeB x.1 p else nodeB p x.1
theorem join_any (x p : Bytes) (f : Bool) (w : World) (hx : x.length ≤ 274877906944) (hp : p.length ≤ 274877906944) (hT : Rounds w) :
    Calls Tryz.prog 91 #[.agg #[.string (bs x), .bool f], .string (bs p)] w fun e w' => e = .returned (.string (bs (joinB (x, f) p))) ∧ Below w.heap.size w w' := by
  have hb0 : Below w.heap.size w (w.alloc (.cells #[.string (bs x), .bool f] 128)) := (Below.refl _ _).alloc (Nat.le_refl _) _
  have HB := Lib.hid hb0
  cases f
  · have HN := Lib.hid (node_any (bs p) (bs x) _ (by rw [bs_size]; exact hp) (by rw [bs_size]; exact hx) (hT.below hb0 (Nat.le_refl _)))
    clear hT hb0
    go_enter Tryz.func91, Tryz.ntmps91
    go_wp2_with (go_at_call 76; refine HN.out.mono ?_; rintro e w2 ⟨rfl, hb2⟩)
    go_ret
    exact ⟨rfl, HB.out.trans (hb2.mono HB.out.size)⟩
  · have HN := Lib.hid (node_any (bs x) (bs p) _ (by rw [bs_size]; exact hx) (by rw [bs_size]; exact hp) (hT.below hb0 (Nat.le_refl _)))
    clear hT hb0
    go_enter Tryz.func91, Tryz.ntmps91
    go_wp2_with (go_at_call 76; refine HN.out.mono ?_; rintro e w2 ⟨rfl, hb2⟩)
    go_ret
    exact ⟨rfl, HB.out.trans (hb2.mono HB.out.size)⟩
end Go.Proofs.YthfenbdlolbikaaGreatDoor
end

section
/- Rows of sides, and slices.Backward at them. -/
namespace Go.Proofs.YthfenbdlolbikaaGreatDoor
open Go.RowKit Go.Shelf
attribute [local go_sem] Oper.semAt_some

theorem infoSd : (Tryz.prog.info? 128).map (fun i => (i.zero, i.size, i.bytes)) = some (some (.agg #[.string (⟨#[]⟩ : ByteArray), .bool false]), 2, 24) := by kernel_rfl
/-- The cells of sides. -/
def sdCells (l : List (Bytes × Bool)) : List Value := l.flatMap fun p => [.string (bs p.1), .bool p.2]
theorem sdCells_length (l : List (Bytes × Bool)) : (sdCells l).length = l.length * 2 := by
  induction l with
  | nil => rfl
  | cons c t ih => simp only [sdCells, List.flatMap_cons, List.length_append, List.length_cons, List.length_nil] at *; omega
theorem sdCells_get : ∀ (l : List (Bytes × Bool)) (i : Nat) (h : i < l.length), (sdCells l)[i * 2]? = some (.string (bs l[i].1)) ∧ (sdCells l)[i * 2 + 1]? = some (.bool l[i].2)
  | c :: t, 0, _ => ⟨rfl, rfl⟩
  | c :: t, i + 1, h => by
    have := sdCells_get t i (by simpa using h)
    have e : sdCells (c :: t) = .string (bs c.1) :: .bool c.2 :: sdCells t := rfl
    rw [e, show (i + 1) * 2 = i * 2 + 1 + 1 from by omega, List.getElem?_cons_succ, List.getElem?_cons_succ, List.getElem?_cons_succ, List.getElem?_cons_succ]
    exact this
/-- A slice of sides of the call's own. -/
def OwnD (base : Nat) (w : World) (v : Value) (l : List (Bytes × Bool)) : Prop := w.ownsRow base 128 2 v l.length (sdCells l)
theorem OwnD.nil (base : Nat) (w : World) : OwnD base w (.slice none 0 0) [] := World.ownsRow_nil _ _ _ _
theorem OwnD.below {base B : Nat} {w w' : World} {v : Value} {l : List (Bytes × Bool)} (h : OwnD base w v l) (hb : Below B w w') (hB : w.heap.size ≤ B) : OwnD base w' v l := row_below h hb hB
def gS (l : List (Bytes × Bool)) (i : Nat) : ByteArray := bs (l.getD i ([], false)).1
def gF (l : List (Bytes × Bool)) (i : Nat) : Bool := (l.getD i ([], false)).2
theorem OwnD.cell {base : Nat} {w : World} {g n cap : Nat} {l : List (Bytes × Bool)} (h : OwnD base w (.slice (some ⟨g, 0, none⟩) n cap) l) (i : Nat) (hi : i < l.length) : w.cell? ⟨g, i * 2, none⟩ = some (.string (gS l i)) ∧ w.cell? ⟨g, i * 2 + 1, none⟩ = some (.bool (gF l i)) := by
  obtain ⟨e1, e2⟩ := sdCells_get l i hi
  have h1 := World.ownsRow.cells h (g := g) rfl (i * 2) _ e1
  have h2 := World.ownsRow.cells h (g := g) rfl (i * 2 + 1) _ e2
  rw [Addr.add_lit, Nat.zero_add] at h1 h2
  have ed : l.getD i ([], false) = l[i] := by rw [List.getD_eq_getElem?_getD, List.getElem?_eq_getElem hi]; rfl
  unfold gS gF
  rw [ed]
  exact ⟨h1, h2⟩
theorem OwnD.shape {base : Nat} {w : World} {v : Value} {l : List (Bytes × Bool)} (h : OwnD base w v l) : (v = .slice none 0 0 ∧ l = []) ∨ ∃ g cap, v = .slice (some ⟨g, 0, none⟩) l.length cap ∧ base ≤ g ∧ g < w.heap.size ∧ l.length ≤ cap ∧ cap ≤ maxLen := by
  rcases h.2 with ⟨h0, h1⟩ | ⟨g, cap, cur, h1, h2, h3, h4, h5, _⟩
  · exact .inl ⟨h0, List.eq_nil_of_length_eq_zero h1⟩
  · exact .inr ⟨g, cap, h1, h2, (Array.getElem?_eq_some_iff.1 h3).1, h4, h5⟩
theorem OwnD.shape4 {base : Nat} {w : World} {v : Value} {l : List (Bytes × Bool)} (h : OwnD base w v l) (hz : 0 < w.heap.size) : ∃ a g cap, v = .slice a l.length cap ∧ (0 < l.length → a = some ⟨g, 0, none⟩) ∧ g < w.heap.size ∧ ∀ i, i < l.length → w.cell? ⟨g, i * 2, none⟩ = some (.string (gS l i)) ∧ w.cell? ⟨g, i * 2 + 1, none⟩ = some (.bool (gF l i)) := by
  rcases h.shape with ⟨rfl, rfl⟩ | ⟨g, cap, rfl, _, hg, _, _⟩
  · exact ⟨none, 0, 0, rfl, fun h => by simp at h, hz, fun i hi => by simp at hi⟩
  · exact ⟨_, g, cap, rfl, fun _ => rfl, hg, fun i hi => h.cell i hi⟩
theorem append_side {ops : Array Oper} {rest : List Oper} {o : Oper} {a : Act} {Q : Exit → Act → World → Prop} {wr : World} (hgd : o.guard = none) (s x : Operand)
    (ho : o.op = .call { callee := .builtin .append, args := #[s, x], argTypes := #[124, 124] }) (base : Nat) (v : Value) (l : List (Bytes × Bool)) (z : Bytes) (f : Bool)
    (hs : a.eval s = v) (hx : a.eval x = .slice (some ⟨wr.heap.size, 0, none⟩) 1 1) (hown : OwnD base wr v l) (hlen : l.length < 1099511627776) (hbase : base ≤ wr.heap.size) (w0 : World) (hb : Below base w0 wr)
    (h : ∀ v' w', OwnD base w' v' (l ++ [(z, f)]) → (wr.alloc (.cells #[.string (bs z), .bool f] 128)).grownBy w' v.ownBlock → Below base w0 w' → wpList Tryz.prog ops Q rest (a.put o.dst v') w') : wpList Tryz.prog ops Q (o :: rest) a (wr.alloc (.cells #[.string (bs z), .bool f] 128)) := by
  obtain ⟨i0, hi, hz0, hz1, hz2⟩ := info_parts infoSd
  refine wpList_append_own _ hgd s x 124 ho base 128 i0 (.agg #[.string (⟨#[]⟩ : ByteArray), .bool false]) 2 24 Tryz.underlying124 hi hz0 hz1 hz2 rfl (by decide) v l.length _ hs (World.ownsRow.alloc hown _) ⟨wr.heap.size, 0, none⟩ 1 1 [.string (bs z), .bool f] hx rfl ?_ (by simp [Value.oneCell']) (by unfold maxLen; omega) (by omega) (by simp; omega) ?_
  · intro j u hj
    match j, hj with
    | 0, hj => simp at hj; subst hj; simp [Addr.add]
    | 1, hj => simp at hj; subst hj; simp [Addr.add]
  · intro v' w' hown' hg _
    refine h v' w' ?_ hg ((hb.alloc hbase _).grown hg (by simp; omega) fun k hk => (World.ownsRow.lt hown k hk).1)
    unfold OwnD sdCells
    rw [List.length_append, List.flatMap_append]
    exact hown'
theorem backS_any (v : Value) (hv : ∃ a n c, v = .slice a n c) (w : World) :
    Calls Tryz.prog 90 #[v] w fun e w' => e = .returned (.func (.func 109) #[] #[.pointer (some ⟨w.heap.size, 0, none⟩)]) ∧ w' = w.alloc (.cells #[v] 124) := by
  obtain ⟨a, n, c, rfl⟩ := hv
  go_enter Tryz.func90, Tryz.ntmps90
  go_wp2
  go_ret
  exact ⟨rfl, rfl⟩

set_option maxRecDepth 100000 in
set_option maxHeartbeats 400000 in
theorem backS1_seq (n Bs gb m C : Nat) (a : Option Addr) (R : Nat → ByteArray) (Fl : Nat → Bool) (Kp : World → World → Prop) (w : World) (hs : Boxed w Bs 124 (.slice a m C)) (hm : m ≤ 1099511627776)
    (ha : 0 < m → a = some ⟨gb, 0, none⟩) (hc : ∀ i, i < m → w.cell? ⟨gb, i * 2, none⟩ = some (.string (R i)) ∧ w.cell? ⟨gb, i * 2 + 1, none⟩ = some (.bool (Fl i))) (hKs : ∀ A B, Kp A B → B.heap[Bs]? = A.heap[Bs]?) (hKg : ∀ A B, Kp A B → B.heap[gb]? = A.heap[gb]?) :
    SeqStopsK Fence.wide n Tryz.prog 109 #[.pointer (some ⟨Bs, 0, none⟩)] (fun i : Fin m => #[.int .i64 (i.1 : Int), .agg #[.string (R i.1), .bool (Fl i.1)]]) Kp (fun xs => xs = dn m m) (fun _ => True) m w := by
  intro l J Jx W hW hJ _ hY h0
  have hs1 : Boxed W Bs 124 (.slice a m C) := (hW.block _ hs.lt).trans hs
  have hc1 : ∀ i, i < m → W.cell? ⟨gb, i * 2, none⟩ = some (.string (R i)) ∧ W.cell? ⟨gb, i * 2 + 1, none⟩ = some (.bool (Fl i)) := fun i hi => ⟨(hW.cell (p := ⟨gb, i * 2, none⟩) (World.block_lt_of_cell? w _ (hc i hi).1)).trans (hc i hi).1, (hW.cell (p := ⟨gb, i * 2 + 1, none⟩) (World.block_lt_of_cell? w _ (hc i hi).2)).trans (hc i hi).2⟩
  have HY := Lib.hid hY
  have HKs := Lib.hid hKs
  have HKg := Lib.hid hKg
  have HC1 := Lib.hid hc1
  have HA := Lib.hid ha
  clear hY hJ hs hW hKs hKg hc hc1 ha
  refine callsIn_of_wp Tryz.func109 rfl trivial ?_
  simp only [Tryz.ntmps109, List.size_toArray, List.length_cons, List.length_nil, Nat.reduceAdd, Nat.reduceSub, Array.replicate_succ, Array.replicate_zero, List.push_toArray, List.append_toArray, List.nil_append, List.cons_append]
  have cs := hs1.cell
  gi_wp2
  clear cs
  gi_loopw [3] (fun u wr => ∃ i : Nat, i ≤ m ∧ u = .int .i64 ((i : Int) - 1) ∧ Boxed wr Bs 124 (.slice a m C) ∧ (∀ i, i < m → wr.cell? ⟨gb, i * 2, none⟩ = some (.string (R i)) ∧ wr.cell? ⟨gb, i * 2 + 1, none⟩ = some (.bool (Fl i))) ∧ J (dn m (m - i)) wr) (fun u _ => (intOf u + 1).toNat)
  case atStart => exact ⟨m, Nat.le_refl _, rfl, hs1, HC1.out, by rw [Nat.sub_self]; exact h0⟩
  case round =>
    clear HC1 hs1
    obtain ⟨i, hi, rfl, hs2, hc2, hJ2⟩ := hrel
    have HS2 := Lib.hid hs2
    have HC2 := Lib.hid hc2
    have cs := hs2.cell
    clear hs2 hc2
    rcases Nat.eq_zero_or_pos i with hi0 | hi0
    · subst hi0
      gi_wp2
      go_end0
      exact ⟨⟨_, rfl⟩, .inl ⟨_, rfl, hJ2⟩⟩
    · obtain ⟨q, rfl⟩ : ∃ q, i = q + 1 := ⟨i - 1, by omega⟩
      rw [show (((q + 1 : Nat) : Int) - 1) = (q : Int) by omega]
      have hqm : q < m := by omega
      obtain ⟨c1, c2⟩ := HC2.out q hqm
      have haa := HA.out (by omega)
      subst haa
      have hqq : (q : Int) < (m : Int) := by omega
      have HD := Lib.hid (dn_succ m (m - (q + 1)) (by omega))
      rw [show m - (q + 1) + 1 = m - q from by omega] at HD
      have HE : Hid ((⟨m - 1 - (m - (q + 1)), by omega⟩ : Fin m) = ⟨q, hqm⟩) := by show _ = _; exact Fin.ext (by show m - 1 - (m - (q + 1)) = q; omega)
      rw [HE.out] at HD
      obtain ⟨fn, tmps, assign, body, hyi, hR⟩ := HY.out (dn m (m - (q + 1))) ⟨q, hqm⟩ wr hJ2 (by rw [dn_length m _ (by omega)]; omega)
      try dsimp only at hyi
      gi_wp2
      refine ⟨(fun h => by cases h), hR.mono ?_⟩
      rintro e W3 (⟨rfl, hJ3, hk3⟩ | ⟨rfl, hJx3⟩)
      · have hs3 : Boxed W3 Bs 124 (.slice (some ⟨gb, 0, none⟩) m C) := (HKs.out _ _ hk3).trans HS2.out
        have hc3 : ∀ i, i < m → W3.cell? ⟨gb, i * 2, none⟩ = some (.string (R i)) ∧ W3.cell? ⟨gb, i * 2 + 1, none⟩ = some (.bool (Fl i)) := fun i hi => by
          have := HC2.out i hi
          simp only [World.cell?] at this ⊢
          rw [HKg.out _ _ hk3]
          exact this
        have HS3 := Lib.hid hs3
        have HC3 := Lib.hid hc3
        clear hs3 hc3 cs c1 c2
        gi_wp2
        go_roundw
        case rel => exact ⟨q, by omega, by go_num, HS3.out, HC3.out, by rw [HD.out]; exact hJ3⟩
        case measure => simp [intOf]
      · gi_wp2
        refine bodyPost_ret (results_none rfl _ _ _) rfl ?_
        exact ⟨⟨_, rfl⟩, .inr ⟨_, trivial, hJx3⟩⟩
end Go.Proofs.YthfenbdlolbikaaGreatDoor
end

section
/- digest.Verify. -/
namespace Go.Proofs.YthfenbdlolbikaaGreatDoor
open Go.RowKit Go.Shelf
attribute [local go_sem] Oper.semAt_some

/-- The digests of the way up. -/
def upB (way : List (Bytes × Bool)) (v : Bytes) : Bytes := way.foldr joinB v
theorem upB_snoc (way : List (Bytes × Bool)) (x : Bytes × Bool) (v : Bytes) : upB (way ++ [x]) v = upB way (joinB x v) := by unfold upB; rw [List.foldr_append]; rfl
theorem joinB_length (x : Bytes × Bool) (p : Bytes) : (joinB x p).length = 32 := by
  unfold joinB
  split <;> exact nodeB_length _ _
theorem StrsAt.lastCell {B : Nat} {w : World} {a : Option Addr} {n c : Nat} {l : List Bytes} {x : Bytes} (h : StrsAt B w (.slice a n c) (l ++ [x])) : ∃ b off, a = some ⟨b, off, none⟩ ∧ b < B ∧ w.cell? ⟨b, off + l.length, none⟩ = some (.string (bs x)) := by
  obtain ⟨b, off, ha, hb, hc⟩ := h.at l.length (by simp)
  exact ⟨b, off, ha, hb, by rw [hc]; simp [List.getD_eq_getElem?_getD]⟩
theorem below_of_row {base : Nat} {w1 w' : World} {v : Value} {e : TypeId} {size n : Nat} {xs : List Value} {o : Obj} (hbase : base ≤ w1.heap.size) (hg : (w1.alloc o).grownBy w' v.ownBlock) (h : w1.ownsRow base e size v n xs) : Below base w1 w' :=
  ⟨hg.os, hg.tape, hg.output, Nat.le_trans (by simp) hg.size, fun k hk => by
    have hz : w1.heap.size < (w1.alloc o).heap.size := by simp
    by_cases hlt : k < w1.heap.size
    · rw [hg.block k (by omega) (fun e => by have := (World.ownsRow.lt h k e.symm).1; omega)]
      exact Below.heap_alloc _ _ _ hlt
    · exact absurd hk (by omega)⟩
theorem bs_toList (l : Bytes) : (bs l).toList = l := by rw [Lib.toList_data]; rfl
/-- Between two rounds of the last loop. -/
def UpI (way : List (Bytes × Bool)) (o : Bytes) (m Bo : Nat) (W0 : World) (pre : List (Fin m)) (W : World) : Prop := Boxed W Bo 9 (.string (bs (pre.foldl (fun o i => joinB (way.getD i.1 ([], false)) o) o))) ∧ W0.grownBy W (some Bo)
theorem upI_own (way : List (Bytes × Bool)) (o : Bytes) (m Bo B : Nat) (W0 : World) (hB : W0.heap.size ≤ B) (hH : Bo < B) : OwnFrom B (UpI way o m Bo W0) := by
  intro s W W' row h hg hr
  refine ⟨(hg.block Bo h.1.lt (fun e => by have := (hr Bo e.symm).1; omega)).trans h.1, World.grownBy.andThen h.2 hg fun j hj => .inl ?_⟩
  have := (hr j hj).1
  omega
/-- Where the loop's variable lies. -/
def SideAx (way : List (Bytes × Bool)) (M H : Nat) (fr : Fin M → Nat → Act) (x : Fin M) (a' : Act) (W : World) : Prop := ∃ Bx, H ≤ Bx ∧ W.heap[Bx]? = some (.cells #[.string (gS way x.1), .bool (gF way x.1)] 128 (0, 0)) ∧ a' = fr x Bx
theorem sideAx_own (way : List (Bytes × Bool)) (M H B : Nat) (fr : Fin M → Nat → Act) (x : Fin M) (a' : Act) : OwnFrom B (fun (_ : Unit) W => SideAx way M H fr x a' W) := by
  rintro u W W' row ⟨Bx, h1, h2, h3⟩ hg hr
  refine ⟨Bx, h1, (hg.block Bx (Array.getElem?_eq_some_iff.1 h2).1 fun e => ?_).trans h2, h3⟩
  obtain ⟨_, o, ho, hc⟩ := hr Bx e.symm
  rw [h2] at ho
  cases ho
  cases hc
theorem up_back (way : List (Bytes × Bool)) (o : Bytes) (m : Nat) (hm : way.length = m) : ∀ k, k ≤ m → (dn m k).foldl (fun o i => joinB (way.getD i.1 ([], false)) o) o = upB (way.drop (m - k)) o
  | 0, _ => by rw [Nat.sub_zero, List.drop_eq_nil_of_le (by omega)]; rfl
  | k + 1, hk => by
    have hi : m - (k + 1) < way.length := by omega
    rw [dn_succ m k (by omega), List.foldl_append, up_back way o m hm k (by omega), List.drop_eq_getElem_cons hi, show m - (k + 1) + 1 = m - k from by omega]
    show joinB (way.getD (m - 1 - k) ([], false)) _ = joinB way[m - (k + 1)] (upB (way.drop (m - k)) o)
    rw [show m - 1 - k = m - (k + 1) from by omega, List.getD_eq_getElem?_getD, List.getElem?_eq_getElem hi]
    rfl
/-- At the head of the loop over a proof. -/
def VerI (proof : List Bytes) (n i : Nat) (s : Bytes) (base : Nat) (n' i' : Nat) (v4 v11 : Value) (wr : World) : Prop :=
  ∃ (rest : List Bytes) (way : List (Bytes × Bool)), StrsAt base wr v4 rest ∧ OwnD base wr v11 way ∧ (∀ x ∈ rest, x.length = 32) ∧ (∀ x ∈ way, x.1.length = 32) ∧ rest.length + way.length = proof.length ∧
    valR proof.reverse n i s = (valR rest.reverse n' i' s).map (upB way)
set_option maxRecDepth 100000 in
set_option maxHeartbeats 2000000 in
theorem verify_any (root : Bytes) (n i : Int) (s : Bytes) (v : Value) (proof : List Bytes) (w : World) (hn : -9223372036854775808 ≤ n ∧ n ≤ 9223372036854775807) (hi : -9223372036854775808 ≤ i ∧ i ≤ 9223372036854775807) (hs : s.length ≤ 274877906944) (hL : StrsAt w.heap.size w v proof) (hlen : proof.length ≤ 1000000) (hT : Rounds w) :
    Calls Tryz.prog 57 #[.string (bs root), .int .i64 n, .int .i64 i, .string (bs s), v] w fun e w' => e = .returned (.bool (verB root n i s proof)) ∧ Below w.heap.size w w' := by
  obtain ⟨av, cv, rfl, hcv1, hcv2⟩ := hL.shape
  unfold maxLen at hcv2
  have HV : Hid (verB root n i s proof = (decide (0 ≤ i) && decide (i < n) && digB proof && (valR proof.reverse n.toNat i.toNat s == some root))) := rfl
  have HAll := Lib.hid (all_any _ proof w hL)
  have HL := Lib.hid hL
  have HT := Lib.hid hT
  clear hL hT
  by_cases h0 : i < 0
  · have d0 : decide (i < 0) = true := by simp [h0]
    have HF : Hid (verB root n i s proof = false) := by show _ = _; rw [HV.out, show decide (0 ≤ i) = false from by simp; omega]; rfl
    go_enter Tryz.func57, Tryz.ntmps57
    go_wp2
    go_ret
    exact ⟨by rw [HF.out]; rfl, Below.refl _ _⟩
  by_cases h1 : n ≤ i
  · have d0 : decide (i < 0) = false := by simp; omega
    have d1 : decide (n ≤ i) = true := by simp [h1]
    have HF : Hid (verB root n i s proof = false) := by show _ = _; rw [HV.out, show decide (i < n) = false from by simp; omega]; simp
    go_enter Tryz.func57, Tryz.ntmps57
    go_wp2
    go_ret
    exact ⟨by rw [HF.out]; rfl, Below.refl _ _⟩
  have d0 : decide (i < 0) = false := by simp; omega
  have d1 : decide (n ≤ i) = false := by simp; omega
  cases hd : digB proof
  · rw [hd] at HAll
    have HF : Hid (verB root n i s proof = false) := by show _ = _; rw [HV.out, hd]; simp
    clear hd
    go_enter Tryz.func57, Tryz.ntmps57
    go_wp2_with (go_at_call 87; refine HAll.out.mono ?_; rintro e w' ⟨rfl, rfl⟩)
    go_ret
    exact ⟨by rw [HF.out]; rfl, Below.refl _ _⟩
  · obtain ⟨j, rfl⟩ := Int.eq_ofNat_of_zero_le (show 0 ≤ i by omega)
    obtain ⟨m, rfl⟩ := Int.eq_ofNat_of_zero_le (show 0 ≤ n by omega)
    have HF : Hid (verB root m j s proof = (valR proof.reverse m j s == some root)) := by show _ = _; rw [HV.out, hd, show decide ((0 : Int) ≤ (j : Int)) = true from by simp, show decide ((j : Int) < (m : Int)) = true from by simp; omega]; rfl
    have H32 : Hid (∀ x ∈ proof, x.length = 32) := fun x hx => by
      unfold digB at hd
      exact of_decide_eq_true (List.all_eq_true.1 hd x hx)
    rw [hd] at HAll
    have d1' : decide (m ≤ j) = false := by simp; omega
    have hjm : j < m := by omega
    clear hd HV d1 h1 h0
    generalize hnp : proof.length = np at *
    have Hnp := Lib.hid hnp
    clear hnp
    refine (callsIn_wide (n := 4)).1 ?_
    refine callsIn_of_wp_marks Tryz.func57 rfl trivial ?_
    simp only [Tryz.ntmps57, List.size_toArray, List.length_cons, List.length_nil, Nat.reduceAdd, Nat.reduceSub, Array.replicate_succ, Array.replicate_zero, List.push_toArray, List.append_toArray, List.nil_append, List.cons_append]
    refine wpIn_wide.2 ?_
    go_wp2_with (go_at_call 87; refine HAll.out.mono ?_; rintro e w' ⟨rfl, rfl⟩)
    clear d0 d1'
    go_loopw [1, 2, 4, 11] (fun v1 v2 v4 v11 wr => ∃ n' i' : Nat, v1 = .int .i64 n' ∧ v2 = .int .i64 i' ∧ i' < n' ∧ n' ≤ m ∧ VerI proof m j s w.heap.size n' i' v4 v11 wr ∧ Below w.heap.size w wr) (fun v1 _ _ _ _ => (intOf v1).toNat)
    case atStart => exact ⟨m, j, rfl, rfl, hjm, Nat.le_refl _, ⟨proof, [], HL.out, OwnD.nil _ _, H32.out, fun x hx => by simp at hx, by simp, by rw [show upB [] = id from rfl]; simp⟩, Below.refl _ _⟩
    case round =>
      obtain ⟨n', i', rfl, rfl, hin, hnm, ⟨rest, way, hS, hO, hr32, hw32, hlens, hval⟩, hB⟩ := hrel
      have hzB := hB.size
      have HR32 := Lib.hid hr32
      have HW32 := Lib.hid hw32
      have HVal := Lib.hid hval
      have HO := Lib.hid hO
      rw [Hnp.out] at hlens
      clear hr32 hw32 hval hO
      by_cases hn1 : 1 < n'
      · have dn : decide ((1 : Int) < (n' : Int)) = true := by simp; omega
        rcases List.eq_nil_or_concat rest with h0 | ⟨rest0, x, h0⟩
        · subst h0
          obtain ⟨a4, c4, hv4, _, _⟩ := hS.shape
          rw [show ([] : List Bytes).length = 0 from rfl] at hv4
          subst hv4
          have HFf : Hid (verB root m j s proof = false) := by show _ = _; rw [HF.out, HVal.out]; show ((valR [] n' i' s).map (upB way) == some root) = false; simp only [valR]; rw [if_neg (by omega)]; rfl
          go_wp2_with (go_at_call 89; refine (take_none _ _ _).mono ?_; rintro e w' ⟨rfl, rfl⟩)
          refine leaves_marks (B := w.heap.size) [] wr ⟨by simp, by simp⟩ fun W9 hb' _ => ?_
          exact ⟨_, results_tmp rfl _ _ _, by rw [HFf.out]; rfl, hB.trans hb'⟩
        · rw [List.concat_eq_append] at h0
          subst h0
          obtain ⟨a4, c4, hv4, hc4, hc4'⟩ := hS.shape
          unfold maxLen at hc4'
          obtain ⟨N, hN⟩ : ∃ N, N = rest0.length := ⟨_, rfl⟩
          have HN := Lib.hid hN
          rw [List.length_append, List.length_singleton, ← hN] at hv4 hc4
          subst hv4
          obtain ⟨b4, o4, ha4, hb4, cl⟩ := hS.lastCell
          subst ha4
          rw [← hN] at cl
          have HTk : Hid (StrsAt w.heap.size wr (.slice (some ⟨b4, o4, none⟩) N c4) rest0) := by
            have := hS.take rest0.length (by simp)
            rw [List.take_left, ← hN] at this
            exact this
          have HTake := Lib.hid (take_some b4 o4 (N + 1) c4 (bs x) wr (by omega) (by omega) (by omega) (by rw [Nat.add_sub_cancel]; exact cl))
          rw [Nat.add_sub_cancel] at HTake
          have hx32 := HR32.out x (by simp)
          have hb := leftN_bd (n := n') (by omega)
          have HLf := Lib.hid (fun W => left_any (n' : Int) W (by omega) (by omega))
          rw [Int.toNat_natCast] at HLf
          have HStep : Hid (valR (rest0 ++ [x]).reverse n' i' s = if i' < leftN n' then (valR rest0.reverse (leftN n') i' s).map (nodeB · x) else (valR rest0.reverse (n' - leftN n') (i' - leftN n') s).map (nodeB x ·)) := by
            show _ = _
            rw [List.reverse_append]
            exact (show valR (x :: rest0.reverse) n' i' s = if n' ≤ 1 then none else if i' < leftN n' then (valR rest0.reverse (leftN n') i' s).map (nodeB · x) else (valR rest0.reverse (n' - leftN n') (i' - leftN n') s).map (nodeB x ·) from rfl).trans (if_neg (by omega))
          have hwl : way.length ≤ 1000000 := by rw [List.length_append] at hlens; omega
          generalize leftN n' = K at *
          clear hS cl hN
          by_cases hik : i' < K
          · have dk : decide (K ≤ i') = false := by simp; omega
            have HSt : Hid (valR proof.reverse m j s = (valR rest0.reverse K i' s).map (upB (way ++ [(x, false)]))) := by
              show _ = _
              rw [HVal.out, HStep.out, if_pos hik, Option.map_map]
              congr 1
              funext v
              exact (upB_snoc way (x, false) v).symm
            go_wp2_with (first | (go_at_call 89; refine HTake.out.mono ?_; rintro e w2 ⟨rfl, q, hw2⟩; have hb2 : Below wr.heap.size wr w2 := (by rw [hw2]; exact below_drewN0 (Below.refl _ _) q); have hz2 := hb2.size; have HO2 := Lib.hid (HO.out.below hb2 (Nat.le_refl _)); have HTk2 := Lib.hid (HTk.out.below hb2 hzB); have hB2 := hB.trans (hb2.mono hzB); clear hw2) | (go_at_call 84; refine (HLf.out _).mono ?_; rintro e w' ⟨rfl, rfl⟩) | (at_builtin; refine append_side rfl _ _ rfl w.heap.size u11 way x false rfl rfl HO2.out (by omega) (by omega) w hB2 ?_; intro v5 w3 hO3 hg3 hb3))
            have HR0 : Hid (∀ y ∈ rest0, y.length = 32) := fun y hy => HR32.out y (by simp [hy])
            have HW0 : Hid (∀ y ∈ way ++ [(x, false)], y.1.length = 32) := fun y hy => by
              rcases List.mem_append.1 hy with hy | hy
              · exact HW32.out y hy
              · rw [List.mem_singleton.1 hy]; exact hx32
            go_roundw
            case rel => exact ⟨K, i', rfl, rfl, hik, by omega, ⟨rest0, way ++ [(x, false)], HTk2.out.below (below_of_row (by omega) hg3 HO2.out) (Nat.le_refl _), hO3, HR0.out, HW0.out, by rw [Hnp.out]; simp at hlens ⊢; omega, HSt.out⟩, hb3⟩
            case measure => simp [intOf]; omega
          · have dk : decide (K ≤ i') = true := by simp; omega
            have HSt : Hid (valR proof.reverse m j s = (valR rest0.reverse (n' - K) (i' - K) s).map (upB (way ++ [(x, true)]))) := by
              show _ = _
              rw [HVal.out, HStep.out, if_neg hik, Option.map_map]
              congr 1
              funext v
              exact (upB_snoc way (x, true) v).symm
            have dw1 : IntKind.i64.wrap ((i' : Int) - (K : Int)) = (i' : Int) - (K : Int) := IntWalk.i64_in _ (by omega)
            have dw2 : IntKind.i64.wrap ((n' : Int) - (K : Int)) = (n' : Int) - (K : Int) := IntWalk.i64_in _ (by omega)
            go_wp2_with (first | (go_at_call 89; refine HTake.out.mono ?_; rintro e w2 ⟨rfl, q, hw2⟩; have hb2 : Below wr.heap.size wr w2 := (by rw [hw2]; exact below_drewN0 (Below.refl _ _) q); have hz2 := hb2.size; have HO2 := Lib.hid (HO.out.below hb2 (Nat.le_refl _)); have HTk2 := Lib.hid (HTk.out.below hb2 hzB); have hB2 := hB.trans (hb2.mono hzB); clear hw2) | (go_at_call 84; refine (HLf.out _).mono ?_; rintro e w' ⟨rfl, rfl⟩) | (at_builtin; refine append_side rfl _ _ rfl w.heap.size u11 way x true rfl rfl HO2.out (by omega) (by omega) w hB2 ?_; intro v5 w3 hO3 hg3 hb3))
            have HR0 : Hid (∀ y ∈ rest0, y.length = 32) := fun y hy => HR32.out y (by simp [hy])
            have HW0 : Hid (∀ y ∈ way ++ [(x, true)], y.1.length = 32) := fun y hy => by
              rcases List.mem_append.1 hy with hy | hy
              · exact HW32.out y hy
              · rw [List.mem_singleton.1 hy]; exact hx32
            go_roundw
            case rel => exact ⟨n' - K, i' - K, congrArg (Value.int .i64) (by omega), congrArg (Value.int .i64) (by omega), by omega, by omega, ⟨rest0, way ++ [(x, true)], HTk2.out.below (below_of_row (by omega) hg3 HO2.out) (Nat.le_refl _), hO3, HR0.out, HW0.out, by rw [Hnp.out]; simp at hlens ⊢; omega, HSt.out⟩, hb3⟩
            case measure => simp [intOf]; omega
      · have dn : decide ((1 : Int) < (n' : Int)) = false := by simp; omega
        have HRes : Hid (verB root m j s proof = (rest.isEmpty && (upB way (leafB s) == root))) := by
          show _ = _
          rw [HF.out, HVal.out]
          cases hrr : rest.reverse with
          | nil =>
            obtain rfl : rest = [] := by simpa using hrr
            simp only [valR]
            rw [if_pos (by omega)]
            rfl
          | cons y t =>
            have hne : rest.isEmpty = false := by cases rest with | nil => simp at hrr | cons a b => rfl
            simp only [valR]
            rw [if_pos (by omega), hne]
            rfl
        obtain ⟨a4, c4, hv4, hc4, hc4'⟩ := hS.shape
        have HLf := Lib.hid (leaf_any (bs s) wr (by rw [bs_size]; exact hs) (HT.out.below hB (Nat.le_refl _)))
        rw [bs_list] at HLf
        clear HVal HF
        obtain ⟨a3, g3, cp3, hv11, ha3, hg3, hc3⟩ := HO.out.shape4 (by have := (HT.out.below hB (Nat.le_refl _)).lt; omega)
        obtain ⟨M, hM⟩ : ∃ M, M = way.length := ⟨_, rfl⟩
        have HM := Lib.hid hM
        rw [← hM] at hv11 ha3 hc3
        have hMb : M ≤ 1000000 := by omega
        have HC3 := Lib.hid hc3
        have HA3 := Lib.hid ha3
        subst hv11
        subst hv4
        generalize hrl : rest.length = RL at *
        have HRl := Lib.hid hrl
        clear hM hc3 ha3 hrl hS
        go_wp2_with (first | (go_at_call 75; refine HLf.out.mono ?_; rintro e w2 ⟨rfl, hb2⟩) | (go_at_call 90; refine (backS_any _ ⟨_, _, _, rfl⟩ _).mono ?_; rintro e w' ⟨rfl, rfl⟩))
        have hz2 := hb2.size
        have hr0 : Below w2.heap.size w2 ((w2.alloc (.cells #[.string (bs (leafB s))] 9)).alloc (.cells #[.slice a3 M cp3] 124)) := ((Below.refl _ _).alloc (Nat.le_refl _) _).alloc (by simp) _
        have hbo : Boxed ((w2.alloc (.cells #[.string (bs (leafB s))] 9)).alloc (.cells #[.slice a3 M cp3] 124)) w2.heap.size 9 (.string (bs (leafB s))) := (Boxed.new w2 9 (.string (bs (leafB s)))).alloc _
        have hbs : Boxed ((w2.alloc (.cells #[.string (bs (leafB s))] 9)).alloc (.cells #[.slice a3 M cp3] 124)) (w2.heap.size + 1) 124 (.slice a3 M cp3) := by
          have := Boxed.new (w2.alloc (.cells #[.string (bs (leafB s))] 9)) 124 (.slice a3 M cp3)
          rwa [World.size_alloc] at this
        have hzr : ((w2.alloc (.cells #[.string (bs (leafB s))] 9)).alloc (.cells #[.slice a3 M cp3] 124)).heap.size = w2.heap.size + 2 := by simp
        obtain ⟨W2, hW2⟩ : ∃ W2, W2 = (w2.alloc (.cells #[.string (bs (leafB s))] 9)).alloc (.cells #[.slice a3 M cp3] 124) := ⟨_, rfl⟩
        rw [← hW2] at hr0 hbo hbs hzr ⊢
        clear hW2
        have hcells : ∀ i, i < M → W2.cell? ⟨g3, i * 2, none⟩ = some (.string (gS way i)) ∧ W2.cell? ⟨g3, i * 2 + 1, none⟩ = some (.bool (gF way i)) := fun i hi =>
          ⟨((hb2.trans (hr0.mono hz2)).cell (p := ⟨g3, i * 2, none⟩) hg3).trans (HC3.out i hi).1, ((hb2.trans (hr0.mono hz2)).cell (p := ⟨g3, i * 2 + 1, none⟩) hg3).trans (HC3.out i hi).2⟩
        have HTr := Lib.hid (((HT.out.below hB (Nat.le_refl _)).below hb2 (Nat.le_refl _)).below hr0 (Nat.le_refl _))
        have hgl : 0 ≠ w2.heap.size := fun e => by have := (HT.out.below hB (Nat.le_refl _)).lt; omega
        have HUp := Lib.hid (up_back way (leafB s) M HM.out.symm)
        refine (wpIn_wide (n := 4)).1 ?_
        refine wpIn_rangeFunc_ownH rfl (by omega) (gf := 109) (lb := #[.pointer (some ⟨w2.heap.size + 1, 0, none⟩)]) rfl trivial (enters_of Tryz.func109 (by kernel_rfl) rfl)
          (backS1_seq _ (w2.heap.size + 1) g3 M cp3 a3 (gS way) (gF way) (KpBut W2.heap.size w2.heap.size) W2 hbs (by omega) HA3.out hcells (fun A B h => h _ (by omega) (by omega)) (fun A B h => h _ (by omega) (by omega))) kpBut_t (kpBut_b (Nat.le_refl _)) (Below.refl _ _) (fun _ => rfl)
          (UpI way (leafB s) M w2.heap.size W2) (fun _ _ _ => False) (upI_own _ _ _ _ _ _ (Nat.le_refl _) (by omega)) (fun c => fun _ _ _ _ h => h.elim)
          ⟨hbo, World.grownBy.refl _ _⟩ (SideAx way M W2.heap.size ?fr) (sideAx_own _ _ _ _ _) ?assign ?body ?done ?stop
        case assign =>
          rintro l' pre x W' K ⟨hbx, hG⟩ hK
          have hzG := hG.size
          gi_wp2
          obtain ⟨Bx, hBx⟩ : ∃ Bx, Bx = W'.heap.size := ⟨_, rfl⟩
          have hnew : (W'.alloc (.cells #[.string (gS way x.1), .bool (gF way x.1)] 128)).heap[Bx]? = some (.cells #[.string (gS way x.1), .bool (gF way x.1)] 128 (0, 0)) := by rw [hBx]; exact heap_alloc_new W' _
          have hle : W2.heap.size ≤ Bx := by omega
          rw [← hBx]
          have hK2 := hK _ (W'.alloc (.cells #[.string (gS way x.1), .bool (gF way x.1)] 128)) ((KeepsOthers.alloc _ _).from _) (fun k hk _ => Below.heap_alloc _ _ _ (by omega)) ⟨hbx.alloc _, hG.trans (World.grownBy_alloc _ _ _)⟩ ⟨Bx, hle, hnew, rfl⟩
          exact hK2
        case stop =>
          rintro D c pre W' _ _ h _
          exact h.elim
        case body =>
          rintro l' pre ⟨x, hx⟩ a' W' hl' ⟨r, hr⟩ ⟨hbx, hG⟩ ⟨Bx, hle, hblk, ha'⟩ hlt
          subst ha'
          dsimp only at hblk ⊢
          have hzG := hG.size
          have hxl : (way.getD x ([], false)).1.length = 32 := HW32.out _ (getD_mem' _ _ _ (by rw [← HM.out]; exact hx))
          obtain ⟨o, ho⟩ : ∃ o, o = pre.foldl (fun o i => joinB (way.getD i.1 ([], false)) o) (leafB s) := ⟨_, rfl⟩
          have ho32 : o.length = 32 := by
            rw [ho]
            rcases List.eq_nil_or_concat pre with h0 | ⟨p0, y, h0⟩
            · rw [h0]; exact leafB_length _
            · rw [h0, List.concat_eq_append, List.foldl_append]; exact joinB_length _ _
          rw [← ho] at hbx
          have HJn : Hid (Calls Tryz.prog 91 #[.agg #[.string (gS way x), .bool (gF way x)], .string (bs o)] W' fun e w' => e = .returned (.string (bs (joinB (way.getD x ([], false)) o))) ∧ Below W'.heap.size W' w') :=
            join_any (way.getD x ([], false)).1 o (way.getD x ([], false)).2 W' (by omega) (by omega) (HTr.out.grown hG hgl)
          have HFo : Hid ((pre ++ [(⟨x, hx⟩ : Fin M)]).foldl (fun o (i : Fin M) => joinB (way.getD i.1 ([], false)) o) (leafB s) = joinB (way.getD x ([], false)) o) := by show _ = _; rw [List.foldl_append, ← ho]; rfl
          have c0 : W'.cell? ⟨Bx, 0, none⟩ = some (.string (gS way x)) := cell_of_row _ Bx 0 _ _ _ hblk
          have c1 : W'.cell? ⟨Bx, 1, none⟩ = some (.bool (gF way x)) := cell_of_row _ Bx 1 _ _ _ hblk
          have cb := hbx.cell
          have HBx := Lib.hid hbx
          have HG := Lib.hid hG
          clear hbx hG hblk ho hxl ho32
          generalize gS way x = gs at *
          generalize gF way x = gf at *
          gi_wp2_with (refine ⟨trivial, ?_⟩; gi_at_call 91; refine (CallsIn.inRound l' (callsIn_wide.2 HJn.out)).mono ?_; rintro e w3 ⟨rfl, hb3⟩; have hb3x : Boxed w3 w2.heap.size 9 (.string (bs o)) := (hb3.block _ HBx.out.lt).trans HBx.out; have cb3 := hb3x.cell; have fb3 := hb3x.frozen)
          have hg3' : W'.grownBy (w3.setCell ⟨w2.heap.size, 0, none⟩ (.string (bs (joinB (way.getD x ([], false)) o)))) (some w2.heap.size) := grownBy_set (grown_of_below hb3 _)
          refine ⟨KeepsFrom.of_grownBy hg3' (fun j hj => by cases hj; omega), kpBut_grown hg3' hzG, ?_, HG.out.trans hg3'⟩
          rw [HFo.out]
          exact hb3x.set _
        case done =>
          rintro D xs W' hD rfl ⟨hbx, hG⟩ hK
          rw [HUp.out M (Nat.le_refl _), Nat.sub_self, List.drop_zero] at hbx
          have cb := hbx.cell
          have HK := Lib.hid hK
          have hzG := hG.size
          have HG := Lib.hid hG
          have hall : Below w.heap.size w W' := (((hB.trans (hb2.mono hzB)).trans (hr0.mono (by omega))).grown HG.out (by omega) (fun k hk => by cases hk; omega))
          have HAll := Lib.hid hall
          clear hK hG hbx hall
          rw [show rest.isEmpty = decide (RL = 0) from by rw [← HRl.out]; cases rest <;> simp] at HRes
          generalize hup : upB way (leafB s) = U at *
          clear hup
          by_cases hR0 : RL = 0
          · have dR : (((RL : Nat) : Int) == 0) = true := by simp [hR0]
            rw [show decide (RL = 0) = true from by simp [hR0], Bool.true_and] at HRes
            clear hR0
            have HBe := Lib.hid (show ((bs U).toList == (bs root).toList) = (U == root) by rw [bs_toList, bs_toList])
            go_wp2
            have hKD := HK.out
            refine leaves_marks (B := w.heap.size) [D] W' ⟨by simp, fun D' hD' => ?_⟩ fun W9 hb' _ => ?_
            · rw [List.mem_singleton.1 hD']
              exact ⟨by omega, hKD⟩
            · exact ⟨_, results_tmp rfl _ _ _, by rw [HRes.out, ← HBe.out]; rfl, HAll.out.trans hb'⟩
          · have dR : (((RL : Nat) : Int) == 0) = false := by simp; omega
            rw [show decide (RL = 0) = false from by simp [hR0], Bool.false_and] at HRes
            clear hR0
            go_wp2
            have hKD := HK.out
            refine leaves_marks (B := w.heap.size) [D] W' ⟨by simp, fun D' hD' => ?_⟩ fun W9 hb' _ => ?_
            · rw [List.mem_singleton.1 hD']
              exact ⟨by omega, hKD⟩
            · exact ⟨_, results_tmp rfl _ _ _, by rw [HRes.out]; rfl, HAll.out.trans hb'⟩
end Go.Proofs.YthfenbdlolbikaaGreatDoor
end

section
/- digest.VerifyExtension. -/
namespace Go.Proofs.YthfenbdlolbikaaGreatDoor
open Go.RowKit Go.Shelf
attribute [local go_sem] Oper.semAt_some

def join1 (x : Bytes × Bool) (p : Bytes) : Bytes := if x.2 then joinB x p else p
def up1 (way : List (Bytes × Bool)) (v : Bytes) : Bytes := way.foldr join1 v
theorem up1_snoc (way : List (Bytes × Bool)) (x : Bytes × Bool) (v : Bytes) : up1 (way ++ [x]) v = up1 way (join1 x v) := by unfold up1; rw [List.foldr_append]; rfl
theorem up1_back (way : List (Bytes × Bool)) (o : Bytes) (m : Nat) (hm : way.length = m) : ∀ k, k ≤ m → (dn m k).foldl (fun o i => join1 (way.getD i.1 ([], false)) o) o = up1 (way.drop (m - k)) o
  | 0, _ => by rw [Nat.sub_zero, List.drop_eq_nil_of_le (by omega)]; rfl
  | k + 1, hk => by
    have hi : m - (k + 1) < way.length := by omega
    rw [dn_succ m k (by omega), List.foldl_append, up1_back way o m hm k (by omega), List.drop_eq_getElem_cons hi, show m - (k + 1) + 1 = m - k from by omega]
    show join1 (way.getD (m - 1 - k) ([], false)) _ = join1 way[m - (k + 1)] (up1 (way.drop (m - k)) o)
    rw [show m - 1 - k = m - (k + 1) from by omega, List.getD_eq_getElem?_getD, List.getElem?_eq_getElem hi]
    rfl
theorem join1_length (x : Bytes × Bool) (p : Bytes) (hp : p.length = 32) : (join1 x p).length = 32 := by
  unfold join1
  split
  · exact joinB_length _ _
  · exact hp
/-- What was there is kept, but for two blocks. -/
def Two (B1 B2 : Nat) (w w' : World) : Prop := w'.os = w.os ∧ w'.tape = w.tape ∧ w'.output = w.output ∧ w.heap.size ≤ w'.heap.size ∧ ∀ k, k < w.heap.size → k ≠ B1 → k ≠ B2 → w'.heap[k]? = w.heap[k]?
theorem Two.refl (B1 B2 : Nat) (w : World) : Two B1 B2 w w := ⟨rfl, rfl, rfl, Nat.le_refl _, fun _ _ _ _ => rfl⟩
theorem Two.trans {B1 B2 : Nat} {a b c : World} (h : Two B1 B2 a b) (g : Two B1 B2 b c) : Two B1 B2 a c :=
  ⟨g.1.trans h.1, g.2.1.trans h.2.1, g.2.2.1.trans h.2.2.1, Nat.le_trans h.2.2.2.1 g.2.2.2.1, fun k hk h1 h2 => (g.2.2.2.2 k (Nat.lt_of_lt_of_le hk h.2.2.2.1) h1 h2).trans (h.2.2.2.2 k hk h1 h2)⟩
theorem Two.size {B1 B2 : Nat} {a b : World} (h : Two B1 B2 a b) : a.heap.size ≤ b.heap.size := h.2.2.2.1
theorem Two.of1 {B1 B2 : Nat} {a b : World} (h : a.grownBy b (some B1)) : Two B1 B2 a b := ⟨h.os, h.tape, h.output, h.size, fun k hk h1 _ => h.block k hk (fun e => h1 (by cases e; rfl))⟩
theorem Two.of2 {B1 B2 : Nat} {a b : World} (h : a.grownBy b (some B2)) : Two B1 B2 a b := ⟨h.os, h.tape, h.output, h.size, fun k hk _ h2 => h.block k hk (fun e => h2 (by cases e; rfl))⟩
theorem Two.of0 {B1 B2 : Nat} {a b : World} (h : a.grownBy b none) : Two B1 B2 a b := ⟨h.os, h.tape, h.output, h.size, fun k hk _ _ => h.block k hk (fun e => by cases e)⟩
theorem Two.below {B1 B2 B : Nat} {a b : World} (h : Two B1 B2 a b) (h1 : B ≤ B1) (h2 : B ≤ B2) (h3 : B ≤ a.heap.size) : Below B a b := ⟨h.1, h.2.1, h.2.2.1, h.2.2.2.1, fun k hk => h.2.2.2.2 k (by omega) (by omega) (by omega)⟩
theorem Two.keeps {B1 B2 B : Nat} {a b : World} (h : Two B1 B2 a b) (h1 : B1 < B) (h2 : B2 < B) : KeepsFrom B a b := ⟨h.size, fun k _ hk hb _ => (h.2.2.2.2 k (Array.getElem?_eq_some_iff.1 hb).1 (by omega) (by omega)).trans hb⟩
/-- All blocks before n₀ are kept, but for two. -/
def KpTwo (n₀ B1 B2 : Nat) (W W' : World) : Prop := ∀ k, k < n₀ → k ≠ B1 → k ≠ B2 → W'.heap[k]? = W.heap[k]?
theorem kpTwo_t {n₀ B1 B2 : Nat} {A B C : World} (x : KpTwo n₀ B1 B2 A B) (y : KpTwo n₀ B1 B2 B C) : KpTwo n₀ B1 B2 A C := fun k hk h1 h2 => (y k hk h1 h2).trans (x k hk h1 h2)
theorem kpTwo_b {n₀ B1 B2 : Nat} {w : World} (hn : n₀ ≤ w.heap.size) (W : World) (l : Nat) (o o' : Obj) (hl : w.heap.size ≤ l) (_ : W.heap[l]? = some o) (_ : o.isCells = false) (_ : o.isWalk = false) : KpTwo n₀ B1 B2 W (W.putObj l o') :=
  fun k hk _ _ => World.putObj_heap_other (by omega)
theorem kpTwo_two {n₀ B1 B2 : Nat} {W W' : World} (h : Two B1 B2 W W') (hn : n₀ ≤ W.heap.size) : KpTwo n₀ B1 B2 W W' := fun k hk h1 h2 => h.2.2.2.2 k (by omega) h1 h2
/-- Between two rounds of the last loop. -/
def UpJ (way : List (Bytes × Bool)) (o : Bytes) (m B1 B2 : Nat) (W0 : World) (pre : List (Fin m)) (W : World) : Prop :=
  Boxed W B1 9 (.string (bs (pre.foldl (fun o i => join1 (way.getD i.1 ([], false)) o) o))) ∧ Boxed W B2 9 (.string (bs (pre.foldl (fun o i => joinB (way.getD i.1 ([], false)) o) o))) ∧ Two B1 B2 W0 W
theorem upJ_own (way : List (Bytes × Bool)) (o : Bytes) (m B1 B2 B : Nat) (W0 : World) (hB : W0.heap.size ≤ B) (h1 : B1 < B) (h2 : B2 < B) : OwnFrom B (UpJ way o m B1 B2 W0) := by
  intro s W W' row h hg hr
  refine ⟨(hg.block B1 h.1.lt (fun e => by have := (hr B1 e.symm).1; omega)).trans h.1, (hg.block B2 h.2.1.lt (fun e => by have := (hr B2 e.symm).1; omega)).trans h.2.1, ?_⟩
  exact ⟨hg.os.trans h.2.2.1, hg.tape.trans h.2.2.2.1, hg.output.trans h.2.2.2.2.1, Nat.le_trans h.2.2.2.2.2.1 hg.size, fun k hk k1 k2 => (hg.block k (Nat.lt_of_lt_of_le hk h.2.2.2.2.2.1) (fun e => by have := (hr k e.symm).1; omega)).trans (h.2.2.2.2.2.2 k hk k1 k2)⟩
/-- At the head of the loop over a proof. -/
def ExtI (old : Bytes) (proof : List Bytes) (m n : Nat) (base m' n' : Nat) (v4 v11 : Value) (whole : Bool) (wr : World) : Prop :=
  ∃ (rest : List Bytes) (way : List (Bytes × Bool)), StrsAt base wr v4 rest ∧ OwnD base wr v11 way ∧ (∀ x ∈ rest, x.length = 32) ∧ (∀ x ∈ way, x.1.length = 32) ∧ rest.length + way.length = proof.length ∧
    bothR old proof.reverse m n true = (bothR old rest.reverse m' n' whole).map (fun p => (up1 way p.1, upB way p.2))
/-- What the statement that takes the first value over reads and writes. -/
def ExtR (b4 o4 B1 B2 : Nat) (x : Bytes) (W0 W : World) : Prop := (∃ v1, Boxed W B1 9 v1) ∧ (∃ v2, Boxed W B2 9 v2) ∧ W.cell? ⟨b4, o4, none⟩ = some (.string (bs x)) ∧ Two B1 B2 W0 W
theorem ExtR.drew {b4 o4 B1 B2 : Nat} {x : Bytes} {W0 W : World} (h : ExtR b4 o4 B1 B2 x W0 W) : ExtR b4 o4 B1 B2 x W0 W.drew := h
theorem ExtR.drewN {b4 o4 B1 B2 : Nat} {x : Bytes} {W0 W : World} (h : ExtR b4 o4 B1 B2 x W0 W) (n : Nat) : ExtR b4 o4 B1 B2 x W0 (W.drewN n) := h
theorem ExtR.set1 {b4 o4 B1 B2 : Nat} {x : Bytes} {W0 W : World} (h : ExtR b4 o4 B1 B2 x W0 W) (h1 : B1 ≠ B2) (h2 : b4 ≠ B1) (v : Value) : ExtR b4 o4 B1 B2 x W0 (W.setCell ⟨B1, 0, none⟩ v) := by
  obtain ⟨⟨v1, hb1⟩, ⟨v2, hb2⟩, hc, ht⟩ := h
  exact ⟨⟨v, hb1.set v⟩, ⟨v2, hb2.other (fun e => h1 e.symm) v⟩, by rw [World.cell?_setCell_far _ _ _ _ (fun e => h2 e.symm)]; exact hc, ht.trans (Two.of1 (grownBy_set (World.grownBy.refl _ _)))⟩
theorem ExtR.set2 {b4 o4 B1 B2 : Nat} {x : Bytes} {W0 W : World} (h : ExtR b4 o4 B1 B2 x W0 W) (h1 : B1 ≠ B2) (h2 : b4 ≠ B2) (v : Value) : ExtR b4 o4 B1 B2 x W0 (W.setCell ⟨B2, 0, none⟩ v) := by
  obtain ⟨⟨v1, hb1⟩, ⟨v2, hb2⟩, hc, ht⟩ := h
  exact ⟨⟨v1, hb1.other h1 v⟩, ⟨v, hb2.set v⟩, by rw [World.cell?_setCell_far _ _ _ _ (fun e => h2 e.symm)]; exact hc, ht.trans (Two.of2 (grownBy_set (World.grownBy.refl _ _)))⟩
theorem ExtR.s {b4 o4 B1 B2 : Nat} {x : Bytes} {W0 W : World} (h : ExtR b4 o4 B1 B2 x W0 W) : W.cell? ⟨b4, o4, none⟩ = some (.string (bs x)) ∧ W.cell? ⟨B1, 0, none⟩ = some (oldAt W ⟨B1, 0, none⟩) ∧ W.frozen? ⟨B1, 0, none⟩ = false ∧ W.cell? ⟨B2, 0, none⟩ = some (oldAt W ⟨B2, 0, none⟩) ∧ W.frozen? ⟨B2, 0, none⟩ = false := by
  obtain ⟨⟨v1, hb1⟩, ⟨v2, hb2⟩, hc, ht⟩ := h
  exact ⟨hc, by unfold oldAt; rw [hb1.cell]; rfl, hb1.frozen, by unfold oldAt; rw [hb2.cell]; rfl, hb2.frozen⟩
theorem gen_at {P : World → Prop} {W : World} (R : World → Prop) (h : R W) (k : ∀ W', R W' → P W') : P W := k W h
theorem fold1_length (way : List (Bytes × Bool)) {m : Nat} : ∀ (pre : List (Fin m)) (o : Bytes), o.length = 32 → (pre.foldl (fun o i => join1 (way.getD i.1 ([], false)) o) o).length = 32
  | [], _, h => h
  | _ :: t, _, h => fold1_length way t _ (join1_length _ _ h)
theorem foldJ_length (way : List (Bytes × Bool)) {m : Nat} : ∀ (pre : List (Fin m)) (o : Bytes), o.length = 32 → (pre.foldl (fun o i => joinB (way.getD i.1 ([], false)) o) o).length = 32
  | [], _, h => h
  | _ :: t, _, _ => foldJ_length way t _ (joinB_length _ _)
theorem some_pair (a b c d : Bytes) : ((some (a, b) : Option (Bytes × Bytes)) == some (c, d)) = ((a == c) && (b == d)) := rfl
set_option maxRecDepth 100000 in
set_option maxHeartbeats 4000000 in
theorem verExt_any (old : Bytes) (m : Int) (root : Bytes) (n : Int) (v : Value) (proof : List Bytes) (w : World) (hm : -9223372036854775808 ≤ m ∧ m ≤ 9223372036854775807) (hn : -9223372036854775808 ≤ n ∧ n ≤ 9223372036854775807) (hL : StrsAt w.heap.size w v proof) (hlen : proof.length ≤ 1000000) (hT : Rounds w) :
    Calls Tryz.prog 55 #[.string (bs old), .int .i64 m, .string (bs root), .int .i64 n, v] w fun e w' => e = .returned (.bool (verExtB old m root n proof)) ∧ Below w.heap.size w w' := by
  obtain ⟨av, cv, rfl, hcv1, hcv2⟩ := hL.shape
  unfold maxLen at hcv2
  have HV : Hid (verExtB old m root n proof = (decide (0 ≤ m) && decide (m ≤ n) && digB proof && decide (old.length = 32) && decide (root.length = 32) &&
    (if m = 0 then proof.isEmpty && (old == sha []) else if m = n then proof.isEmpty && (old == root) else bothR old proof.reverse m.toNat n.toNat true == some (old, root)))) := rfl
  have HAll := Lib.hid (all_any _ proof w hL)
  have HDo := Lib.hid (isDigest_any (bs old) w)
  have HDr := Lib.hid (isDigest_any (bs root) w)
  rw [bs_size] at HDo HDr
  have HSm : Hid (Calls Tryz.prog 77 #[.string ⟨#[]⟩] w fun e w' => e = .returned (.string (bs (sha []))) ∧ Below w.heap.size w w') := sum_any ⟨#[]⟩ w (by decide) hT
  have HL := Lib.hid hL
  have HT := Lib.hid hT
  have hpe : proof.isEmpty = decide (proof.length = 0) := by cases proof <;> simp
  have HPe := Lib.hid hpe
  clear hL hT hpe
  by_cases h0 : m < 0
  · have d0 : decide (m < 0) = true := by simp [h0]
    have HF : Hid (verExtB old m root n proof = false) := by show _ = _; rw [HV.out, show decide (0 ≤ m) = false from by simp; omega]; rfl
    go_enter Tryz.func55, Tryz.ntmps55
    go_wp2
    go_ret
    exact ⟨by rw [HF.out]; rfl, Below.refl _ _⟩
  by_cases h1 : n < m
  · have d0 : decide (m < 0) = false := by simp; omega
    have d1 : decide (n < m) = true := by simp [h1]
    have HF : Hid (verExtB old m root n proof = false) := by show _ = _; rw [HV.out, show decide (m ≤ n) = false from by simp; omega]; simp
    go_enter Tryz.func55, Tryz.ntmps55
    go_wp2
    go_ret
    exact ⟨by rw [HF.out]; rfl, Below.refl _ _⟩
  have d0 : decide (m < 0) = false := by simp; omega
  have d1 : decide (n < m) = false := by simp; omega
  cases hd : digB proof
  · rw [hd] at HAll
    have HF : Hid (verExtB old m root n proof = false) := by show _ = _; rw [HV.out, hd]; simp
    clear hd
    go_enter Tryz.func55, Tryz.ntmps55
    go_wp2_with (go_at_call 87; refine HAll.out.mono ?_; rintro e w' ⟨rfl, rfl⟩)
    go_ret
    exact ⟨by rw [HF.out]; rfl, Below.refl _ _⟩
  have H32 : Hid (∀ x ∈ proof, x.length = 32) := fun x hx => by
    unfold digB at hd
    exact of_decide_eq_true (List.all_eq_true.1 hd x hx)
  rw [hd] at HAll
  by_cases ho : ¬ old.length = 32
  · rw [show decide (old.length = 32) = false from by simp [ho]] at HDo
    have HF : Hid (verExtB old m root n proof = false) := by show _ = _; rw [HV.out, show decide (old.length = 32) = false from by simp [ho]]; simp
    clear hd ho
    go_enter Tryz.func55, Tryz.ntmps55
    go_wp2_with (first | (go_at_call 87; refine HAll.out.mono ?_; rintro e w' ⟨rfl, rfl⟩) | (go_at_call 88; refine HDo.out.mono ?_; rintro e w' ⟨rfl, rfl⟩))
    go_ret
    exact ⟨by rw [HF.out]; rfl, Below.refl _ _⟩
  have ho := Decidable.not_not.1 ho
  rw [show decide (old.length = 32) = true from by simp [ho]] at HDo
  by_cases hr : ¬ root.length = 32
  · rw [show decide (root.length = 32) = false from by simp [hr]] at HDr
    have HF : Hid (verExtB old m root n proof = false) := by show _ = _; rw [HV.out, show decide (root.length = 32) = false from by simp [hr]]; simp
    clear hd ho hr
    go_enter Tryz.func55, Tryz.ntmps55
    go_wp2_with (first | (go_at_call 87; refine HAll.out.mono ?_; rintro e w' ⟨rfl, rfl⟩) | (go_at_call 88; (first | refine HDo.out.mono ?_ | refine HDr.out.mono ?_); rintro e w' ⟨rfl, rfl⟩))
    go_ret
    exact ⟨by rw [HF.out]; rfl, Below.refl _ _⟩
  have hr := Decidable.not_not.1 hr
  rw [show decide (root.length = 32) = true from by simp [hr]] at HDr
  obtain ⟨j, rfl⟩ := Int.eq_ofNat_of_zero_le (show 0 ≤ m by omega)
  obtain ⟨k, rfl⟩ := Int.eq_ofNat_of_zero_le (show 0 ≤ n by omega)
  have HF : Hid (verExtB old j root k proof = (if j = 0 then proof.isEmpty && (old == sha []) else if j = k then proof.isEmpty && (old == root) else bothR old proof.reverse j k true == some (old, root))) := by
    show _ = _
    rw [HV.out, hd, show decide ((0 : Int) ≤ (j : Int)) = true from by simp, show decide ((j : Int) ≤ (k : Int)) = true from by simp; omega, show decide (old.length = 32) = true from by simp [ho], show decide (root.length = 32) = true from by simp [hr]]
    simp only [show ((j : Int) = (k : Int)) = (j = k) from propext Int.ofNat_inj]
    simp
  have hjk : j ≤ k := by omega
  have d1' : decide (k < j) = false := by simp; omega
  have HO32 := Lib.hid ho
  have HR32r := Lib.hid hr
  clear hd HV h1 h0 d1 ho hr
  generalize hnp : proof.length = np at *
  have Hnp := Lib.hid hnp
  clear hnp
  generalize hEE : sha [] = E at *
  clear hEE
  by_cases hj0 : j = 0
  · subst hj0
    have HF0 : Hid (verExtB old (0 : Nat) root k proof = (decide (np = 0) && (old == E))) := by show _ = _; rw [HF.out, if_pos rfl, HPe.out, ]
    have HBe := Lib.hid (show ((bs old).toList == (bs E).toList) = (old == E) by rw [bs_toList, bs_toList])
    clear HF HPe hjk d1'
    rw [show (((0 : Nat) : Int)) = (0 : Int) from rfl] at HF0 ⊢
    have d1 : decide ((k : Int) < 0) = false := by simp
    by_cases hp0 : np = 0
    · have dp : ((np : Int) == 0) = true := by simp [hp0]
      rw [show decide (np = 0) = true from by simp [hp0]] at HF0
      clear hp0 hcv1
      go_enter Tryz.func55, Tryz.ntmps55
      go_wp2_with (first | (go_at_call 87; refine HAll.out.mono ?_; rintro e w' ⟨rfl, rfl⟩) | (go_at_call 88; (first | refine HDo.out.mono ?_ | refine HDr.out.mono ?_); rintro e w' ⟨rfl, rfl⟩) | (go_at_call 77; refine HSm.out.mono ?_; rintro e w' ⟨rfl, hb⟩))
      go_ret
      exact ⟨by rw [HF0.out, ← HBe.out]; rfl, hb⟩
    · have dp : ((np : Int) == 0) = false := by simp; omega
      rw [show decide (np = 0) = false from by simp [hp0]] at HF0
      clear hp0 hcv1
      go_enter Tryz.func55, Tryz.ntmps55
      go_wp2_with (first | (go_at_call 87; refine HAll.out.mono ?_; rintro e w' ⟨rfl, rfl⟩) | (go_at_call 88; (first | refine HDo.out.mono ?_ | refine HDr.out.mono ?_); rintro e w' ⟨rfl, rfl⟩))
      go_ret
      exact ⟨by rw [HF0.out]; rfl, Below.refl _ _⟩
  have dj : ((j : Int) == 0) = false := by simp; omega
  by_cases hjk2 : j = k
  · subst hjk2
    have HF0 : Hid (verExtB old j root j proof = (decide (np = 0) && (old == root))) := by show _ = _; rw [HF.out, if_neg hj0, if_pos rfl, HPe.out]
    have HBe := Lib.hid (show ((bs old).toList == (bs root).toList) = (old == root) by rw [bs_toList, bs_toList])
    clear HF HPe hjk
    by_cases hp0 : np = 0
    · have dp : ((np : Int) == 0) = true := by simp [hp0]
      rw [show decide (np = 0) = true from by simp [hp0]] at HF0
      clear hp0 hcv1
      go_enter Tryz.func55, Tryz.ntmps55
      go_wp2_with (first | (go_at_call 87; refine HAll.out.mono ?_; rintro e w' ⟨rfl, rfl⟩) | (go_at_call 88; (first | refine HDo.out.mono ?_ | refine HDr.out.mono ?_); rintro e w' ⟨rfl, rfl⟩))
      go_ret
      exact ⟨by rw [HF0.out, ← HBe.out]; rfl, Below.refl _ _⟩
    · have dp : ((np : Int) == 0) = false := by simp; omega
      rw [show decide (np = 0) = false from by simp [hp0]] at HF0
      clear hp0 hcv1
      go_enter Tryz.func55, Tryz.ntmps55
      go_wp2_with (first | (go_at_call 87; refine HAll.out.mono ?_; rintro e w' ⟨rfl, rfl⟩) | (go_at_call 88; (first | refine HDo.out.mono ?_ | refine HDr.out.mono ?_); rintro e w' ⟨rfl, rfl⟩))
      go_ret
      exact ⟨by rw [HF0.out]; rfl, Below.refl _ _⟩
  have djk : ((j : Int) == (k : Int)) = false := by simp; omega
  have HFx : Hid (verExtB old j root k proof = (bothR old proof.reverse j k true == some (old, root))) := by show _ = _; rw [HF.out, if_neg hj0, if_neg hjk2]
  clear HF HPe HSm
  refine (callsIn_wide (n := 4)).1 ?_
  refine callsIn_of_wp_marks Tryz.func55 rfl trivial ?_
  simp only [Tryz.ntmps55, List.size_toArray, List.length_cons, List.length_nil, Nat.reduceAdd, Nat.reduceSub, Array.replicate_succ, Array.replicate_zero, List.push_toArray, List.append_toArray, List.nil_append, List.cons_append]
  refine wpIn_wide.2 ?_
  go_wp2_with (first | (go_at_call 87; refine HAll.out.mono ?_; rintro e w' ⟨rfl, rfl⟩) | (go_at_call 88; (first | refine HDo.out.mono ?_ | refine HDr.out.mono ?_); rintro e w' ⟨rfl, rfl⟩))
  clear d0 d1' dj djk HDo HDr HAll
  go_loopw [1, 3, 4, 11, 12] (fun v1 v3 v4 v11 v12 wr => ∃ (m' n' : Nat) (whole : Bool), v1 = .int .i64 m' ∧ v3 = .int .i64 n' ∧ v12 = .bool whole ∧ 1 ≤ m' ∧ m' ≤ n' ∧ n' ≤ k ∧ ExtI old proof j k w.heap.size m' n' v4 v11 whole wr ∧ Below w.heap.size w wr) (fun _ v3 _ _ _ _ => (intOf v3).toNat)
  case atStart => exact ⟨j, k, true, rfl, rfl, rfl, by omega, hjk, Nat.le_refl _, ⟨proof, [], HL.out, OwnD.nil _ _, H32.out, fun x hx => by simp at hx, by simp, by rw [show up1 [] = id from rfl, show upB [] = id from rfl]; simp⟩, Below.refl _ _⟩
  case round =>
    obtain ⟨m', n', whole, rfl, rfl, rfl, hm1, hmn, hnk, ⟨rest, way, hS, hO, hr32, hw32, hlens, hval⟩, hB⟩ := hrel
    have hzB := hB.size
    have HR32 := Lib.hid hr32
    have HW32 := Lib.hid hw32
    have HVal := Lib.hid hval
    have HO := Lib.hid hO
    rw [Hnp.out] at hlens
    clear hr32 hw32 hval hO
    by_cases hn1 : m' < n'
    · have dn : decide (m' < n') = true := by simp; omega
      rcases List.eq_nil_or_concat rest with h0 | ⟨rest0, x, h0⟩
      · subst h0
        obtain ⟨a4, c4, hv4, _, _⟩ := hS.shape
        rw [show ([] : List Bytes).length = 0 from rfl] at hv4
        subst hv4
        have HFf : Hid (verExtB old j root k proof = false) := by show _ = _; rw [HFx.out, HVal.out]; show ((bothR old [] m' n' whole).map _ == some (old, root)) = false; simp only [bothR]; rw [if_neg (by omega)]; rfl
        go_wp2_with (go_at_call 89; refine (take_none _ _ _).mono ?_; rintro e w' ⟨rfl, rfl⟩)
        refine leaves_marks (B := w.heap.size) [] wr ⟨by simp, by simp⟩ fun W9 hb' _ => ?_
        exact ⟨_, results_tmp rfl _ _ _, by rw [HFf.out]; rfl, hB.trans hb'⟩
      · rw [List.concat_eq_append] at h0
        subst h0
        obtain ⟨a4, c4, hv4, hc4, hc4'⟩ := hS.shape
        unfold maxLen at hc4'
        obtain ⟨N, hN⟩ : ∃ N, N = rest0.length := ⟨_, rfl⟩
        have HN := Lib.hid hN
        rw [List.length_append, List.length_singleton, ← hN] at hv4 hc4
        subst hv4
        obtain ⟨b4, o4, ha4, hb4, cl⟩ := hS.lastCell
        subst ha4
        rw [← hN] at cl
        have HTk : Hid (StrsAt w.heap.size wr (.slice (some ⟨b4, o4, none⟩) N c4) rest0) := by
          have := hS.take rest0.length (by simp)
          rw [List.take_left, ← hN] at this
          exact this
        have HTake := Lib.hid (take_some b4 o4 (N + 1) c4 (bs x) wr (by omega) (by omega) (by omega) (by rw [Nat.add_sub_cancel]; exact cl))
        rw [Nat.add_sub_cancel] at HTake
        have hx32 := HR32.out x (by simp)
        have hb := leftN_bd (n := n') (by omega)
        have HLf := Lib.hid (fun W => left_any (n' : Int) W (by omega) (by omega))
        rw [Int.toNat_natCast] at HLf
        have HStep : Hid (bothR old (rest0 ++ [x]).reverse m' n' whole = if m' ≤ leftN n' then (bothR old rest0.reverse m' (leftN n') whole).map (fun p => (p.1, nodeB p.2 x)) else (bothR old rest0.reverse (m' - leftN n') (n' - leftN n') false).map (fun p => (nodeB x p.1, nodeB x p.2))) := by
          show _ = _
          rw [List.reverse_append]
          exact (show bothR old (x :: rest0.reverse) m' n' whole = if m' = n' then (if whole = false ∧ rest0.reverse = [] then some (x, x) else none) else
            if m' ≤ leftN n' then (bothR old rest0.reverse m' (leftN n') whole).map (fun p => (p.1, nodeB p.2 x)) else (bothR old rest0.reverse (m' - leftN n') (n' - leftN n') false).map (fun p => (nodeB x p.1, nodeB x p.2)) from rfl).trans (if_neg (by omega))
        have hwl : way.length ≤ 1000000 := by rw [List.length_append] at hlens; omega
        generalize leftN n' = K at *
        clear hS cl hN
        have HR0 : Hid (∀ y ∈ rest0, y.length = 32) := fun y hy => HR32.out y (by simp [hy])
        by_cases hik : m' ≤ K
        · have dk : decide (K < m') = false := by simp; omega
          have HSt : Hid (bothR old proof.reverse j k true = (bothR old rest0.reverse m' K whole).map (fun p => (up1 (way ++ [(x, false)]) p.1, upB (way ++ [(x, false)]) p.2))) := by
            show _ = _
            rw [HVal.out, HStep.out, if_pos hik, Option.map_map]
            congr 1
            funext p
            show (up1 way p.1, upB way (nodeB p.2 x)) = _
            rw [up1_snoc, upB_snoc]
            rfl
          go_wp2_with (first | (go_at_call 89; refine HTake.out.mono ?_; rintro e w2 ⟨rfl, q, hw2⟩; have hb2 : Below wr.heap.size wr w2 := (by rw [hw2]; exact below_drewN0 (Below.refl _ _) q); have hz2 := hb2.size; have HO2 := Lib.hid (HO.out.below hb2 (Nat.le_refl _)); have HTk2 := Lib.hid (HTk.out.below hb2 hzB); have hB2 := hB.trans (hb2.mono hzB); clear hw2) | (go_at_call 84; refine (HLf.out _).mono ?_; rintro e w' ⟨rfl, rfl⟩) | (at_builtin; refine append_side rfl _ _ rfl w.heap.size u11 way x false rfl rfl HO2.out (by omega) (by omega) w hB2 ?_; intro v5 w3 hO3 hg3 hb3))
          have HW0 : Hid (∀ y ∈ way ++ [(x, false)], y.1.length = 32) := fun y hy => by
            rcases List.mem_append.1 hy with hy | hy
            · exact HW32.out y hy
            · rw [List.mem_singleton.1 hy]; exact hx32
          go_roundw
          case rel => exact ⟨m', K, whole, rfl, rfl, rfl, hm1, hik, by omega, ⟨rest0, way ++ [(x, false)], HTk2.out.below (below_of_row (by omega) hg3 HO2.out) (Nat.le_refl _), hO3, HR0.out, HW0.out, by rw [Hnp.out]; simp at hlens ⊢; omega, HSt.out⟩, hb3⟩
          case measure => simp [intOf]; omega
        · have dk : decide (K < m') = true := by simp; omega
          have HSt : Hid (bothR old proof.reverse j k true = (bothR old rest0.reverse (m' - K) (n' - K) false).map (fun p => (up1 (way ++ [(x, true)]) p.1, upB (way ++ [(x, true)]) p.2))) := by
            show _ = _
            rw [HVal.out, HStep.out, if_neg hik, Option.map_map]
            congr 1
            funext p
            show (up1 way (nodeB x p.1), upB way (nodeB x p.2)) = _
            rw [up1_snoc, upB_snoc]
            rfl
          have dw1 : IntKind.i64.wrap ((m' : Int) - (K : Int)) = (m' : Int) - (K : Int) := IntWalk.i64_in _ (by omega)
          have dw2 : IntKind.i64.wrap ((n' : Int) - (K : Int)) = (n' : Int) - (K : Int) := IntWalk.i64_in _ (by omega)
          go_wp2_with (first | (go_at_call 89; refine HTake.out.mono ?_; rintro e w2 ⟨rfl, q, hw2⟩; have hb2 : Below wr.heap.size wr w2 := (by rw [hw2]; exact below_drewN0 (Below.refl _ _) q); have hz2 := hb2.size; have HO2 := Lib.hid (HO.out.below hb2 (Nat.le_refl _)); have HTk2 := Lib.hid (HTk.out.below hb2 hzB); have hB2 := hB.trans (hb2.mono hzB); clear hw2) | (go_at_call 84; refine (HLf.out _).mono ?_; rintro e w' ⟨rfl, rfl⟩) | (at_builtin; refine append_side rfl _ _ rfl w.heap.size u11 way x true rfl rfl HO2.out (by omega) (by omega) w hB2 ?_; intro v5 w3 hO3 hg3 hb3))
          have HW0 : Hid (∀ y ∈ way ++ [(x, true)], y.1.length = 32) := fun y hy => by
            rcases List.mem_append.1 hy with hy | hy
            · exact HW32.out y hy
            · rw [List.mem_singleton.1 hy]; exact hx32
          go_roundw
          case rel => exact ⟨m' - K, n' - K, false, congrArg (Value.int .i64) (by omega), congrArg (Value.int .i64) (by omega), rfl, by omega, by omega, by omega, ⟨rest0, way ++ [(x, true)], HTk2.out.below (below_of_row (by omega) hg3 HO2.out) (Nat.le_refl _), hO3, HR0.out, HW0.out, by rw [Hnp.out]; simp at hlens ⊢; omega, HSt.out⟩, hb3⟩
          case measure => simp [intOf]; omega
    · obtain rfl : m' = n' := by omega
      have dn : decide (m' < m') = false := by simp
      obtain ⟨a4, c4, hv4, hc4, hc4'⟩ := hS.shape
      have hlw : w.heap.size ≠ 0 := by have := HT.out.lt; omega
      obtain ⟨a3, g3, cp3, hv11, ha3, hg3, hc3⟩ := HO.out.shape4 (by omega)
      obtain ⟨M, hM⟩ : ∃ M, M = way.length := ⟨_, rfl⟩
      have HM := Lib.hid hM
      rw [← hM] at hv11 ha3 hc3
      have hMb : M ≤ 1000000 := by omega
      have HC3 := Lib.hid hc3
      have HA3 := Lib.hid ha3
      subst hv11
      subst hv4
      cases whole
      · by_cases hR1 : rest.length = 1
        · obtain ⟨x, rfl⟩ : ∃ x, rest = [x] := by
            cases rest with
            | nil => simp at hR1
            | cons a t => cases t with | nil => exact ⟨a, rfl⟩ | cons b t => simp at hR1
          have HRes : Hid (verExtB old j root k proof = ((up1 way x == old) && (upB way x == root))) := by
            show _ = _
            rw [HFx.out, HVal.out]
            exact (show ((if m' = m' then (if false = false ∧ ([] : List Bytes) = [] then some (x, x) else none) else _).map (fun p : Bytes × Bytes => (up1 way p.1, upB way p.2)) == some (old, root)) = _ by rw [if_pos rfl, if_pos ⟨rfl, rfl⟩]; rfl)
          have hx32 := HR32.out x (by simp)
          obtain ⟨b4, o4, ha4, hb4, cl⟩ := hS.at 0 (by simp)
          subst ha4
          rw [show ([x] : List Bytes).getD 0 [] = x from rfl, Nat.add_zero] at cl
          rw [show ([x] : List Bytes).length = 1 from rfl] at hc4 hlens ⊢
          clear hR1 HVal HFx hM hc3 ha3 hS HR32
          go_wp2
          obtain ⟨W1, hW1⟩ : ∃ W1, W1 = (wr.alloc (.cells #[.string (bs old)] 9)).alloc (.cells #[.string (bs old)] 9) := ⟨_, rfl⟩
          rw [← hW1]
          have hb1 : Below wr.heap.size wr W1 := by rw [hW1]; exact ((Below.refl _ wr).alloc (Nat.le_refl _) _).alloc (by simp) _
          have hz1 : wr.heap.size + 2 ≤ W1.heap.size := by rw [hW1]; simp
          have hR0 : ExtR b4 o4 wr.heap.size (wr.heap.size + 1) x W1 W1 :=
            ⟨⟨_, by rw [hW1]; exact (Boxed.new wr 9 (.string (bs old))).alloc _⟩, ⟨_, by rw [hW1]; have := Boxed.new (wr.alloc (.cells #[.string (bs old)] 9)) 9 (.string (bs old)); rwa [World.size_alloc] at this⟩, (hb1.cell (p := ⟨b4, o4, none⟩) (show b4 < _ by omega)).trans cl, Two.refl _ _ _⟩
          have HR0 := Lib.hid hR0
          have hx1 : wr.heap.size ≠ wr.heap.size + 1 := by omega
          have hx2 : b4 ≠ wr.heap.size := by omega
          have hx3 : b4 ≠ wr.heap.size + 1 := by omega
          have HX1 := Lib.hid hx1
          have HX2 := Lib.hid hx2
          have HX3 := Lib.hid hx3
          have HB1 := Lib.hid hb1
          have HZ1 := Lib.hid hz1
          clear hR0 hx1 hx2 hx3 cl hW1 hb1 hz1
          go_region_held3 (fun W' => W'.cell? ⟨b4, o4, none⟩ = some (.string (bs x)) ∧ W'.cell? ⟨wr.heap.size, 0, none⟩ = some (oldAt W' ⟨wr.heap.size, 0, none⟩) ∧ W'.frozen? ⟨wr.heap.size, 0, none⟩ = false ∧ W'.cell? ⟨wr.heap.size + 1, 0, none⟩ = some (oldAt W' ⟨wr.heap.size + 1, 0, none⟩) ∧ W'.frozen? ⟨wr.heap.size + 1, 0, none⟩ = false)
            (first | (refine ExtR.s (W0 := W1) ?_; ((repeat (first | exact HR0.out | refine ExtR.set1 ?_ HX1.out HX2.out _ | refine ExtR.set2 ?_ HX1.out HX3.out _ | apply ExtR.drewN | apply ExtR.drew)); done)))
            (first | fail)
          all_goals
            rename_i hHeld
            clear hHeld
            refine gen_at (P := fun W => Exit.then _ _ _ _ W) (fun W' => (Boxed W' wr.heap.size 9 (.string (bs x)) ∧ Boxed W' (wr.heap.size + 1) 9 (.string (bs x))) ∧ Below wr.heap.size wr W' ∧ wr.heap.size + 2 ≤ W'.heap.size) ?_ ?_
            · have hT : ∀ W', ExtR b4 o4 wr.heap.size (wr.heap.size + 1) x W1 W' → Below wr.heap.size wr W' ∧ wr.heap.size + 2 ≤ W'.heap.size := fun W' h => ⟨HB1.out.trans (h.2.2.2.below (Nat.le_refl _) (by omega) HB1.out.size), Nat.le_trans HZ1.out h.2.2.2.size⟩
              have hB2 : ∀ (W' : World) v, ExtR b4 o4 wr.heap.size (wr.heap.size + 1) x W1 W' → Boxed ((W'.setCell ⟨wr.heap.size, 0, none⟩ v).setCell ⟨wr.heap.size + 1, 0, none⟩ v) wr.heap.size 9 v ∧ Boxed ((W'.setCell ⟨wr.heap.size, 0, none⟩ v).setCell ⟨wr.heap.size + 1, 0, none⟩ v) (wr.heap.size + 1) 9 v := fun W' v h => by
                obtain ⟨⟨v1, hb1⟩, ⟨v2, hb2⟩, _⟩ := h
                exact ⟨(hb1.set v).other HX1.out v, (hb2.other (fun e => HX1.out e.symm) v).set v⟩
              refine ⟨?_, hT _ ?_⟩
              · refine hB2 _ _ ?_
                repeat (first | exact HR0.out | refine ExtR.set1 ?_ HX1.out HX2.out _ | refine ExtR.set2 ?_ HX1.out HX3.out _ | apply ExtR.drewN | apply ExtR.drew)
              · repeat (first | exact HR0.out | refine ExtR.set1 ?_ HX1.out HX2.out _ | refine ExtR.set2 ?_ HX1.out HX3.out _ | apply ExtR.drewN | apply ExtR.drew)
            clear HR0 HX1 HX2 HX3 HB1 HZ1 HO
            clear W1
            rintro W6 ⟨⟨hx1, hx2⟩, hb6, hz6⟩
            have HX1 := Lib.hid hx1
            have HX2 := Lib.hid hx2
            have HB6 := Lib.hid hb6
            clear hx1 hx2 hb6
            go_wp2
            refine wp_gen (fun W' => (Boxed W' wr.heap.size 9 (.string (bs x)) ∧ Boxed W' (wr.heap.size + 1) 9 (.string (bs x)) ∧ Boxed W' (W6.heap.size) 124 (.slice a3 M cp3)) ∧ Below wr.heap.size wr W' ∧ W6.heap.size < W'.heap.size) ⟨⟨HX1.out.alloc _, HX2.out.alloc _, Boxed.new _ _ _⟩, HB6.out.alloc (by omega) _, by simp⟩ ?_
            rintro W3 ⟨⟨hbo1, hbo2, hbs⟩, hbw, hzw⟩
            have hzw0 : wr.heap.size + 1 < W6.heap.size := by omega
            have hcells : ∀ i, i < M → W3.cell? ⟨g3, i * 2, none⟩ = some (.string (gS way i)) ∧ W3.cell? ⟨g3, i * 2 + 1, none⟩ = some (.bool (gF way i)) := fun i hi =>
              ⟨(hbw.cell (p := ⟨g3, i * 2, none⟩) hg3).trans (HC3.out i hi).1, (hbw.cell (p := ⟨g3, i * 2 + 1, none⟩) hg3).trans (HC3.out i hi).2⟩
            have HUp1 := Lib.hid (up1_back way x M HM.out.symm)
            have HUp2 := Lib.hid (up_back way x M HM.out.symm)
            have hBt : Below w.heap.size w W3 := hB.trans (hbw.mono hzB)
            refine (wpIn_wide (n := 4)).1 ?_
            refine wpIn_rangeFunc_ownH rfl (by omega) (gf := 109) (lb := #[.pointer (some ⟨W6.heap.size, 0, none⟩)]) rfl trivial (enters_of Tryz.func109 (by kernel_rfl) rfl)
              (backS1_seq _ (W6.heap.size) g3 M cp3 a3 (gS way) (gF way) (KpTwo W3.heap.size wr.heap.size (wr.heap.size + 1)) W3 hbs (by omega) HA3.out hcells (fun A B h => h _ (by omega) (by omega) (by omega)) (fun A B h => h _ (by omega) (by omega) (by omega))) kpTwo_t (kpTwo_b (Nat.le_refl _)) (Below.refl _ _) (fun _ => rfl)
              (UpJ way x M wr.heap.size (wr.heap.size + 1) W3) (fun _ _ _ => False) (upJ_own _ _ _ _ _ _ _ (Nat.le_refl _) (by omega) (by omega)) (fun c => fun _ _ _ _ h => h.elim)
              ⟨hbo1, hbo2, Two.refl _ _ _⟩ (SideAx way M W3.heap.size ?frA) (sideAx_own _ _ _ _ _) ?assignA ?bodyA ?doneA ?stopA
            case assignA =>
              rintro l' pre x' W' K ⟨hbx1, hbx2, hG⟩ hK
              have hzG := hG.size
              gi_wp2
              obtain ⟨Bx, hBx⟩ : ∃ Bx, Bx = W'.heap.size := ⟨_, rfl⟩
              have hnew : (W'.alloc (.cells #[.string (gS way x'.1), .bool (gF way x'.1)] 128)).heap[Bx]? = some (.cells #[.string (gS way x'.1), .bool (gF way x'.1)] 128 (0, 0)) := by rw [hBx]; exact heap_alloc_new W' _
              have hle : W3.heap.size ≤ Bx := by omega
              rw [← hBx]
              have hK2 := hK _ (W'.alloc (.cells #[.string (gS way x'.1), .bool (gF way x'.1)] 128)) ((KeepsOthers.alloc _ _).from _) (fun k hk _ _ => Below.heap_alloc _ _ _ (by omega)) ⟨hbx1.alloc _, hbx2.alloc _, hG.trans (Two.of0 (World.grownBy_alloc _ _ _))⟩ ⟨Bx, hle, hnew, rfl⟩
              exact hK2
            case stopA =>
              rintro D c pre W' _ _ h _
              exact h.elim
            case bodyA =>
              rintro l' pre ⟨x', hx⟩ a' W' hl' ⟨r, hr⟩ ⟨hbx1, hbx2, hG⟩ ⟨Bx, hle, hblk, ha'⟩ hlt
              subst ha'
              dsimp only at hblk ⊢
              have hzG := hG.size
              have hxl : (way.getD x' ([], false)).1.length = 32 := HW32.out _ (getD_mem' _ _ _ (by rw [← HM.out]; exact hx))
              have ho1l := fold1_length way pre x hx32
              have ho2l := foldJ_length way pre x hx32
              have hF1 : (pre ++ [(⟨x', hx⟩ : Fin M)]).foldl (fun o (i : Fin M) => join1 (way.getD i.1 ([], false)) o) x = join1 (way.getD x' ([], false)) (pre.foldl (fun o i => join1 (way.getD i.1 ([], false)) o) x) := by rw [List.foldl_append]; rfl
              have hF2 : (pre ++ [(⟨x', hx⟩ : Fin M)]).foldl (fun o (i : Fin M) => joinB (way.getD i.1 ([], false)) o) x = joinB (way.getD x' ([], false)) (pre.foldl (fun o i => joinB (way.getD i.1 ([], false)) o) x) := by rw [List.foldl_append]; rfl
              generalize pre.foldl (fun o i => join1 (way.getD i.1 ([], false)) o) x = o1 at *
              generalize pre.foldl (fun o i => joinB (way.getD i.1 ([], false)) o) x = o2 at *
              have HF1 := Lib.hid hF1
              have HF2 := Lib.hid hF2
              have HJ1 : Hid (∀ W, Rounds W → Calls Tryz.prog 91 #[.agg #[.string (gS way x'), .bool (gF way x')], .string (bs o1)] W fun e w' => e = .returned (.string (bs (joinB (way.getD x' ([], false)) o1))) ∧ Below W.heap.size W w') :=
                fun W hR => join_any (way.getD x' ([], false)).1 o1 (way.getD x' ([], false)).2 W (by omega) (by omega) hR
              have HJ2 : Hid (∀ W, Rounds W → Calls Tryz.prog 91 #[.agg #[.string (gS way x'), .bool (gF way x')], .string (bs o2)] W fun e w' => e = .returned (.string (bs (joinB (way.getD x' ([], false)) o2))) ∧ Below W.heap.size W w') :=
                fun W hR => join_any (way.getD x' ([], false)).1 o2 (way.getD x' ([], false)).2 W (by omega) (by omega) hR
              have HJoin1 : Hid (join1 (way.getD x' ([], false)) o1 = if gF way x' then joinB (way.getD x' ([], false)) o1 else o1) := rfl
              have c0 : W'.cell? ⟨Bx, 0, none⟩ = some (.string (gS way x')) := cell_of_row _ Bx 0 _ _ _ hblk
              have c1 : W'.cell? ⟨Bx, 1, none⟩ = some (.bool (gF way x')) := cell_of_row _ Bx 1 _ _ _ hblk
              have cb1 := hbx1.cell
              have cb2 := hbx2.cell
              have hblt : Bx < W'.heap.size := (Array.getElem?_eq_some_iff.1 hblk).1
              have hR' : Rounds W' := HT.out.below (hBt.trans (hG.below (by omega) (by omega) (by omega))) (Nat.le_refl _)
              have HR' := Lib.hid hR'
              have HBx1 := Lib.hid hbx1
              have HBx2 := Lib.hid hbx2
              have HG := Lib.hid hG
              have HBlk := Lib.hid hblk
              have hBn1 : Bx ≠ wr.heap.size := by omega
              have hBn2 : Bx ≠ wr.heap.size + 1 := by omega
              have hgt : 0 < wr.heap.size := by have := HT.out.lt; omega
              clear hbx1 hbx2 hG hblk hxl hF1 hF2 ho1l ho2l hR'
              generalize gS way x' = gs at *
              generalize gF way x' = gf at *
              generalize joinB (way.getD x' ([], false)) o1 = q1 at *
              generalize joinB (way.getD x' ([], false)) o2 = q2 at *
              cases gf
              · gi_wp2_with (refine ⟨trivial, ?_⟩; gi_at_call 91; refine (CallsIn.inRound l' (callsIn_wide.2 (HJ2.out _ HR'.out))).mono ?_; rintro e w3 ⟨rfl, hb3⟩; have hb3x : Boxed w3 (wr.heap.size + 1) 9 (.string (bs o2)) := (hb3.block _ HBx2.out.lt).trans HBx2.out; have cb3 := hb3x.cell; have fb3 := hb3x.frozen)
                have hg3' : Two wr.heap.size (wr.heap.size + 1) W' (w3.setCell ⟨wr.heap.size + 1, 0, none⟩ (.string (bs q2))) := Two.of2 (grownBy_set (grown_of_below hb3 _))
                refine ⟨hg3'.keeps (by omega) (by omega), kpTwo_two hg3' hzG, ?_, ?_, HG.out.trans hg3'⟩
                · rw [HF1.out, HJoin1.out]
                  exact Boxed.other (show Boxed w3 wr.heap.size 9 (.string (bs o1)) from (hb3.block _ HBx1.out.lt).trans HBx1.out) (by omega) _
                · rw [HF2.out]
                  exact hb3x.set _
              · gi_wp2_with (first | (refine ⟨trivial, ?_⟩; gi_at_call 91; refine (CallsIn.inRound l' (callsIn_wide.2 (HJ2.out _ HR3.out))).mono ?_; rintro e w9 ⟨rfl, hb9⟩; have hb9x : Boxed w9 (wr.heap.size + 1) 9 (.string (bs o2)) := (hb9.block _ HS2.out.lt).trans HS2.out; have cb9 := hb9x.cell; have fb9 := hb9x.frozen) | (refine ⟨trivial, ?_⟩; gi_at_call 91; refine (CallsIn.inRound l' (callsIn_wide.2 (HJ1.out _ HR'.out))).mono ?_; rintro e w3 ⟨rfl, hb3⟩; have hb31 : Boxed w3 wr.heap.size 9 (.string (bs o1)) := (hb3.block _ HBx1.out.lt).trans HBx1.out; have cb3 := hb31.cell; have fb3 := hb31.frozen; have hb32 : Boxed w3 (wr.heap.size + 1) 9 (.string (bs o2)) := (hb3.block _ HBx2.out.lt).trans HBx2.out; have hs2 : Boxed (w3.setCell ⟨wr.heap.size, 0, none⟩ (.string (bs q1))) (wr.heap.size + 1) 9 (.string (bs o2)) := hb32.other (by omega) _; have cs2 := hs2.cell; have HS2 := Lib.hid hs2; have HS1 := Lib.hid (hb31.set (.string (bs q1))); have ht3 : Two wr.heap.size (wr.heap.size + 1) W' (w3.setCell ⟨wr.heap.size, 0, none⟩ (.string (bs q1))) := Two.of1 (grownBy_set (grown_of_below hb3 _)); have hk3 : (w3.setCell ⟨wr.heap.size, 0, none⟩ (.string (bs q1))).heap[Bx]? = some (.cells #[.string gs, .bool true] 128 (0, 0)) := (ht3.2.2.2.2 _ hblt hBn1 hBn2).trans HBlk.out; have cx0 : (w3.setCell ⟨wr.heap.size, 0, none⟩ (.string (bs q1))).cell? ⟨Bx, 0, none⟩ = some (.string gs) := cell_of_row _ Bx 0 _ _ _ hk3; have cx1 : (w3.setCell ⟨wr.heap.size, 0, none⟩ (.string (bs q1))).cell? ⟨Bx, 1, none⟩ = some (.bool true) := cell_of_row _ Bx 1 _ _ _ hk3; have HT3 := Lib.hid ht3; have HR3 := Lib.hid (HT.out.below (hBt.trans ((HG.out.trans ht3).below (B := w.heap.size) (by omega) (by omega) (by omega))) (Nat.le_refl _)); clear hb31 hb32 hs2 ht3 hk3))
                have hg9 : Two wr.heap.size (wr.heap.size + 1) W' (w9.setCell ⟨wr.heap.size + 1, 0, none⟩ (.string (bs q2))) := HT3.out.trans (Two.of2 (grownBy_set (grown_of_below hb9 _)))
                refine ⟨hg9.keeps (by omega) (by omega), kpTwo_two hg9 hzG, ?_, ?_, HG.out.trans hg9⟩
                · rw [HF1.out, HJoin1.out]
                  exact Boxed.other (show Boxed w9 wr.heap.size 9 (.string (bs q1)) from (hb9.block _ HS1.out.lt).trans HS1.out) (by omega) _
                · rw [HF2.out]
                  exact hb9x.set _
            case doneA =>
              rintro D xs W' hD rfl ⟨hbx1, hbx2, hG⟩ hK
              rw [HUp1.out M (Nat.le_refl _), Nat.sub_self, List.drop_zero] at hbx1
              rw [HUp2.out M (Nat.le_refl _), Nat.sub_self, List.drop_zero] at hbx2
              have cb1 := hbx1.cell
              have cb2 := hbx2.cell
              have HK := Lib.hid hK
              have HAllw := Lib.hid (hBt.trans (hG.below (B := w.heap.size) (by omega) (by omega) (by omega)))
              have hzG := hG.size
              clear hK hG hbx1 hbx2 HUp1 HUp2 hcells
              generalize up1 way x = U1 at *
              generalize upB way x = U2 at *
              have HBe1 := Lib.hid (show ((bs U1).toList == (bs old).toList) = (U1 == old) by rw [bs_toList, bs_toList])
              have HBe2 := Lib.hid (show ((bs U2).toList == (bs root).toList) = (U2 == root) by rw [bs_toList, bs_toList])
              cases hq : (U1 == old)
              · have hq1 : ((bs U1).toList == (bs old).toList) = false := by rw [HBe1.out, hq]
                rw [hq] at HRes
                clear hq HBe1
                go_wp2
                have hKD := HK.out
                refine leaves_marks (B := w.heap.size) [D] W' ⟨by simp, fun D' hD' => ?_⟩ fun W9 hb' _ => ?_
                · rw [List.mem_singleton.1 hD']
                  exact ⟨by omega, hKD⟩
                · exact ⟨_, results_tmp rfl _ _ _, by rw [HRes.out]; rfl, HAllw.out.trans hb'⟩
              · have hq1 : ((bs U1).toList == (bs old).toList) = true := by rw [HBe1.out, hq]
                rw [hq] at HRes
                clear hq HBe1
                go_wp2
                have hKD := HK.out
                refine leaves_marks (B := w.heap.size) [D] W' ⟨by simp, fun D' hD' => ?_⟩ fun W9 hb' _ => ?_
                · rw [List.mem_singleton.1 hD']
                  exact ⟨by omega, hKD⟩
                · exact ⟨_, results_tmp rfl _ _ _, by rw [HRes.out, ← HBe2.out]; rfl, HAllw.out.trans hb'⟩
        · have HFf : Hid (verExtB old j root k proof = false) := by
            show _ = _
            rw [HFx.out, HVal.out]
            cases hrr : rest.reverse with
            | nil => simp only [bothR]; rw [if_neg (by simp)]; rfl
            | cons y t =>
              have : t ≠ [] := fun e => hR1 (by rw [← List.length_reverse, hrr, e]; rfl)
              simp only [bothR]
              rw [if_pos trivial, if_neg (fun h => this h.2)]
              rfl
          have d9 : (((rest.length : Nat) : Int) == 1) = false := by simp; omega
          generalize rest.length = RL at *
          clear hR1 HVal HFx hM hc3 ha3 hS HR32
          go_wp2
          refine leaves_marks (B := w.heap.size) [] _ ⟨by simp, by simp⟩ fun W9 hb' _ => ?_
          exact ⟨_, results_tmp rfl _ _ _, by rw [HFf.out]; rfl, Below.trans (by repeat (first | exact hB | (refine Below.setCell_ge ?_ ?_) | (refine Below.alloc ?_ (by first | omega | (simp; omega)) _))) hb'⟩
      · have HRes : Hid (verExtB old j root k proof = (rest.isEmpty && ((up1 way old == old) && (upB way old == root)))) := by
          show _ = _
          rw [HFx.out, HVal.out]
          cases hrr : rest.reverse with
          | nil =>
            obtain rfl : rest = [] := by simpa using hrr
            simp only [bothR]
            rw [if_pos (by simp)]
            rfl
          | cons y t =>
            have hne : rest.isEmpty = false := by cases rest with | nil => simp at hrr | cons a b => rfl
            simp only [bothR]
            first | rw [if_pos rfl, if_neg (by simp), hne] | rw [if_pos trivial, if_neg (by simp), hne]
            rfl
        rw [show rest.isEmpty = decide (rest.length = 0) from by cases rest <;> simp] at HRes
        generalize rest.length = RL at *
        clear HVal HFx hM hc3 ha3 hS HR32
        go_wp2

        refine wp_gen (fun W' => (Boxed W' wr.heap.size 9 (.string (bs old)) ∧ Boxed W' (wr.heap.size + 1) 9 (.string (bs old)) ∧ Boxed W' (wr.heap.size + 2) 124 (.slice a3 M cp3)) ∧ Below wr.heap.size wr W' ∧ wr.heap.size + 2 < W'.heap.size) ⟨⟨((Boxed.new wr 9 (.string (bs old))).alloc _).alloc _, (by have := Boxed.new (wr.alloc (.cells #[.string (bs old)] 9)) 9 (.string (bs old)); rw [World.size_alloc] at this; exact this.alloc _), (by have := Boxed.new ((wr.alloc (.cells #[.string (bs old)] 9)).alloc (.cells #[.string (bs old)] 9)) 124 (.slice a3 M cp3); simpa using this)⟩, (((Below.refl _ wr).alloc (Nat.le_refl _) _).alloc (by simp) _).alloc (by simp; omega) _, by simp⟩ ?_
        rintro W3 ⟨⟨hbo1, hbo2, hbs⟩, hbw, hzw⟩
        have hzw0 : wr.heap.size + 1 < wr.heap.size + 2 := by omega
        have hcells : ∀ i, i < M → W3.cell? ⟨g3, i * 2, none⟩ = some (.string (gS way i)) ∧ W3.cell? ⟨g3, i * 2 + 1, none⟩ = some (.bool (gF way i)) := fun i hi =>
          ⟨(hbw.cell (p := ⟨g3, i * 2, none⟩) hg3).trans (HC3.out i hi).1, (hbw.cell (p := ⟨g3, i * 2 + 1, none⟩) hg3).trans (HC3.out i hi).2⟩
        have HUp1 := Lib.hid (up1_back way old M HM.out.symm)
        have HUp2 := Lib.hid (up_back way old M HM.out.symm)
        have hBt : Below w.heap.size w W3 := hB.trans (hbw.mono hzB)
        refine (wpIn_wide (n := 4)).1 ?_
        refine wpIn_rangeFunc_ownH rfl (by omega) (gf := 109) (lb := #[.pointer (some ⟨wr.heap.size + 2, 0, none⟩)]) rfl trivial (enters_of Tryz.func109 (by kernel_rfl) rfl)
          (backS1_seq _ (wr.heap.size + 2) g3 M cp3 a3 (gS way) (gF way) (KpTwo W3.heap.size wr.heap.size (wr.heap.size + 1)) W3 hbs (by omega) HA3.out hcells (fun A B h => h _ (by omega) (by omega) (by omega)) (fun A B h => h _ (by omega) (by omega) (by omega))) kpTwo_t (kpTwo_b (Nat.le_refl _)) (Below.refl _ _) (fun _ => rfl)
          (UpJ way old M wr.heap.size (wr.heap.size + 1) W3) (fun _ _ _ => False) (upJ_own _ _ _ _ _ _ _ (Nat.le_refl _) (by omega) (by omega)) (fun c => fun _ _ _ _ h => h.elim)
          ⟨hbo1, hbo2, Two.refl _ _ _⟩ (SideAx way M W3.heap.size ?frB) (sideAx_own _ _ _ _ _) ?assignB ?bodyB ?doneB ?stopB
        case assignB =>
          rintro l' pre x' W' K ⟨hbx1, hbx2, hG⟩ hK
          have hzG := hG.size
          gi_wp2
          obtain ⟨Bx, hBx⟩ : ∃ Bx, Bx = W'.heap.size := ⟨_, rfl⟩
          have hnew : (W'.alloc (.cells #[.string (gS way x'.1), .bool (gF way x'.1)] 128)).heap[Bx]? = some (.cells #[.string (gS way x'.1), .bool (gF way x'.1)] 128 (0, 0)) := by rw [hBx]; exact heap_alloc_new W' _
          have hle : W3.heap.size ≤ Bx := by omega
          rw [← hBx]
          have hK2 := hK _ (W'.alloc (.cells #[.string (gS way x'.1), .bool (gF way x'.1)] 128)) ((KeepsOthers.alloc _ _).from _) (fun k hk _ _ => Below.heap_alloc _ _ _ (by omega)) ⟨hbx1.alloc _, hbx2.alloc _, hG.trans (Two.of0 (World.grownBy_alloc _ _ _))⟩ ⟨Bx, hle, hnew, rfl⟩
          exact hK2
        case stopB =>
          rintro D c pre W' _ _ h _
          exact h.elim
        case bodyB =>
          rintro l' pre ⟨x', hx⟩ a' W' hl' ⟨r, hr⟩ ⟨hbx1, hbx2, hG⟩ ⟨Bx, hle, hblk, ha'⟩ hlt
          subst ha'
          dsimp only at hblk ⊢
          have hzG := hG.size
          have hxl : (way.getD x' ([], false)).1.length = 32 := HW32.out _ (getD_mem' _ _ _ (by rw [← HM.out]; exact hx))
          have ho1l := fold1_length way pre old HO32.out
          have ho2l := foldJ_length way pre old HO32.out
          have hF1 : (pre ++ [(⟨x', hx⟩ : Fin M)]).foldl (fun o (i : Fin M) => join1 (way.getD i.1 ([], false)) o) old = join1 (way.getD x' ([], false)) (pre.foldl (fun o i => join1 (way.getD i.1 ([], false)) o) old) := by rw [List.foldl_append]; rfl
          have hF2 : (pre ++ [(⟨x', hx⟩ : Fin M)]).foldl (fun o (i : Fin M) => joinB (way.getD i.1 ([], false)) o) old = joinB (way.getD x' ([], false)) (pre.foldl (fun o i => joinB (way.getD i.1 ([], false)) o) old) := by rw [List.foldl_append]; rfl
          generalize pre.foldl (fun o i => join1 (way.getD i.1 ([], false)) o) old = o1 at *
          generalize pre.foldl (fun o i => joinB (way.getD i.1 ([], false)) o) old = o2 at *
          have HF1 := Lib.hid hF1
          have HF2 := Lib.hid hF2
          have HJ1 : Hid (∀ W, Rounds W → Calls Tryz.prog 91 #[.agg #[.string (gS way x'), .bool (gF way x')], .string (bs o1)] W fun e w' => e = .returned (.string (bs (joinB (way.getD x' ([], false)) o1))) ∧ Below W.heap.size W w') :=
            fun W hR => join_any (way.getD x' ([], false)).1 o1 (way.getD x' ([], false)).2 W (by omega) (by omega) hR
          have HJ2 : Hid (∀ W, Rounds W → Calls Tryz.prog 91 #[.agg #[.string (gS way x'), .bool (gF way x')], .string (bs o2)] W fun e w' => e = .returned (.string (bs (joinB (way.getD x' ([], false)) o2))) ∧ Below W.heap.size W w') :=
            fun W hR => join_any (way.getD x' ([], false)).1 o2 (way.getD x' ([], false)).2 W (by omega) (by omega) hR
          have HJoin1 : Hid (join1 (way.getD x' ([], false)) o1 = if gF way x' then joinB (way.getD x' ([], false)) o1 else o1) := rfl
          have c0 : W'.cell? ⟨Bx, 0, none⟩ = some (.string (gS way x')) := cell_of_row _ Bx 0 _ _ _ hblk
          have c1 : W'.cell? ⟨Bx, 1, none⟩ = some (.bool (gF way x')) := cell_of_row _ Bx 1 _ _ _ hblk
          have cb1 := hbx1.cell
          have cb2 := hbx2.cell
          have hblt : Bx < W'.heap.size := (Array.getElem?_eq_some_iff.1 hblk).1
          have hR' : Rounds W' := HT.out.below (hBt.trans (hG.below (by omega) (by omega) (by omega))) (Nat.le_refl _)
          have HR' := Lib.hid hR'
          have HBx1 := Lib.hid hbx1
          have HBx2 := Lib.hid hbx2
          have HG := Lib.hid hG
          have HBlk := Lib.hid hblk
          have hBn1 : Bx ≠ wr.heap.size := by omega
          have hBn2 : Bx ≠ wr.heap.size + 1 := by omega
          have hgt : 0 < wr.heap.size := by have := HT.out.lt; omega
          clear hbx1 hbx2 hG hblk hxl hF1 hF2 ho1l ho2l hR'
          generalize gS way x' = gs at *
          generalize gF way x' = gf at *
          generalize joinB (way.getD x' ([], false)) o1 = q1 at *
          generalize joinB (way.getD x' ([], false)) o2 = q2 at *
          cases gf
          · gi_wp2_with (refine ⟨trivial, ?_⟩; gi_at_call 91; refine (CallsIn.inRound l' (callsIn_wide.2 (HJ2.out _ HR'.out))).mono ?_; rintro e w3 ⟨rfl, hb3⟩; have hb3x : Boxed w3 (wr.heap.size + 1) 9 (.string (bs o2)) := (hb3.block _ HBx2.out.lt).trans HBx2.out; have cb3 := hb3x.cell; have fb3 := hb3x.frozen)
            have hg3' : Two wr.heap.size (wr.heap.size + 1) W' (w3.setCell ⟨wr.heap.size + 1, 0, none⟩ (.string (bs q2))) := Two.of2 (grownBy_set (grown_of_below hb3 _))
            refine ⟨hg3'.keeps (by omega) (by omega), kpTwo_two hg3' hzG, ?_, ?_, HG.out.trans hg3'⟩
            · rw [HF1.out, HJoin1.out]
              exact Boxed.other (show Boxed w3 wr.heap.size 9 (.string (bs o1)) from (hb3.block _ HBx1.out.lt).trans HBx1.out) (by omega) _
            · rw [HF2.out]
              exact hb3x.set _
          · gi_wp2_with (first | (refine ⟨trivial, ?_⟩; gi_at_call 91; refine (CallsIn.inRound l' (callsIn_wide.2 (HJ2.out _ HR3.out))).mono ?_; rintro e w9 ⟨rfl, hb9⟩; have hb9x : Boxed w9 (wr.heap.size + 1) 9 (.string (bs o2)) := (hb9.block _ HS2.out.lt).trans HS2.out; have cb9 := hb9x.cell; have fb9 := hb9x.frozen) | (refine ⟨trivial, ?_⟩; gi_at_call 91; refine (CallsIn.inRound l' (callsIn_wide.2 (HJ1.out _ HR'.out))).mono ?_; rintro e w3 ⟨rfl, hb3⟩; have hb31 : Boxed w3 wr.heap.size 9 (.string (bs o1)) := (hb3.block _ HBx1.out.lt).trans HBx1.out; have cb3 := hb31.cell; have fb3 := hb31.frozen; have hb32 : Boxed w3 (wr.heap.size + 1) 9 (.string (bs o2)) := (hb3.block _ HBx2.out.lt).trans HBx2.out; have hs2 : Boxed (w3.setCell ⟨wr.heap.size, 0, none⟩ (.string (bs q1))) (wr.heap.size + 1) 9 (.string (bs o2)) := hb32.other (by omega) _; have cs2 := hs2.cell; have HS2 := Lib.hid hs2; have HS1 := Lib.hid (hb31.set (.string (bs q1))); have ht3 : Two wr.heap.size (wr.heap.size + 1) W' (w3.setCell ⟨wr.heap.size, 0, none⟩ (.string (bs q1))) := Two.of1 (grownBy_set (grown_of_below hb3 _)); have hk3 : (w3.setCell ⟨wr.heap.size, 0, none⟩ (.string (bs q1))).heap[Bx]? = some (.cells #[.string gs, .bool true] 128 (0, 0)) := (ht3.2.2.2.2 _ hblt hBn1 hBn2).trans HBlk.out; have cx0 : (w3.setCell ⟨wr.heap.size, 0, none⟩ (.string (bs q1))).cell? ⟨Bx, 0, none⟩ = some (.string gs) := cell_of_row _ Bx 0 _ _ _ hk3; have cx1 : (w3.setCell ⟨wr.heap.size, 0, none⟩ (.string (bs q1))).cell? ⟨Bx, 1, none⟩ = some (.bool true) := cell_of_row _ Bx 1 _ _ _ hk3; have HT3 := Lib.hid ht3; have HR3 := Lib.hid (HT.out.below (hBt.trans ((HG.out.trans ht3).below (B := w.heap.size) (by omega) (by omega) (by omega))) (Nat.le_refl _)); clear hb31 hb32 hs2 ht3 hk3))
            have hg9 : Two wr.heap.size (wr.heap.size + 1) W' (w9.setCell ⟨wr.heap.size + 1, 0, none⟩ (.string (bs q2))) := HT3.out.trans (Two.of2 (grownBy_set (grown_of_below hb9 _)))
            refine ⟨hg9.keeps (by omega) (by omega), kpTwo_two hg9 hzG, ?_, ?_, HG.out.trans hg9⟩
            · rw [HF1.out, HJoin1.out]
              exact Boxed.other (show Boxed w9 wr.heap.size 9 (.string (bs q1)) from (hb9.block _ HS1.out.lt).trans HS1.out) (by omega) _
            · rw [HF2.out]
              exact hb9x.set _
        case doneB =>
          rintro D xs W' hD rfl ⟨hbx1, hbx2, hG⟩ hK
          rw [HUp1.out M (Nat.le_refl _), Nat.sub_self, List.drop_zero] at hbx1
          rw [HUp2.out M (Nat.le_refl _), Nat.sub_self, List.drop_zero] at hbx2
          have cb1 := hbx1.cell
          have cb2 := hbx2.cell
          have HK := Lib.hid hK
          have HAllw := Lib.hid (hBt.trans (hG.below (B := w.heap.size) (by omega) (by omega) (by omega)))
          have hzG := hG.size
          clear hK hG hbx1 hbx2 HUp1 HUp2 hcells
          generalize up1 way old = U1 at *
          generalize upB way old = U2 at *
          have HBe1 := Lib.hid (show ((bs U1).toList == (bs old).toList) = (U1 == old) by rw [bs_toList, bs_toList])
          have HBe2 := Lib.hid (show ((bs U2).toList == (bs root).toList) = (U2 == root) by rw [bs_toList, bs_toList])
          by_cases hR0 : RL = 0
          · have dR : (((RL : Nat) : Int) == 0) = true := by simp [hR0]
            rw [show decide (RL = 0) = true from by simp [hR0], Bool.true_and] at HRes
            clear hR0
            cases hq : (U1 == old)
            · have hq1 : ((bs U1).toList == (bs old).toList) = false := by rw [HBe1.out, hq]
              rw [hq] at HRes
              clear hq HBe1
              go_wp2
              have hKD := HK.out
              refine leaves_marks (B := w.heap.size) [D] W' ⟨by simp, fun D' hD' => ?_⟩ fun W9 hb' _ => ?_
              · rw [List.mem_singleton.1 hD']
                exact ⟨by omega, hKD⟩
              · exact ⟨_, results_tmp rfl _ _ _, by rw [HRes.out]; rfl, HAllw.out.trans hb'⟩
            · have hq1 : ((bs U1).toList == (bs old).toList) = true := by rw [HBe1.out, hq]
              rw [hq] at HRes
              clear hq HBe1
              go_wp2
              have hKD := HK.out
              refine leaves_marks (B := w.heap.size) [D] W' ⟨by simp, fun D' hD' => ?_⟩ fun W9 hb' _ => ?_
              · rw [List.mem_singleton.1 hD']
                exact ⟨by omega, hKD⟩
              · exact ⟨_, results_tmp rfl _ _ _, by rw [HRes.out, ← HBe2.out]; rfl, HAllw.out.trans hb'⟩
          · have dR : (((RL : Nat) : Int) == 0) = false := by simp; omega
            rw [show decide (RL = 0) = false from by simp [hR0], Bool.false_and] at HRes
            clear hR0
            go_wp2
            have hKD := HK.out
            refine leaves_marks (B := w.heap.size) [D] W' ⟨by simp, fun D' hD' => ?_⟩ fun W9 hb' _ => ?_
            · rw [List.mem_singleton.1 hD']
              exact ⟨by omega, hKD⟩
            · exact ⟨_, results_tmp rfl _ _ _, by rw [HRes.out]; rfl, HAllw.out.trans hb'⟩
end Go.Proofs.YthfenbdlolbikaaGreatDoor
end
