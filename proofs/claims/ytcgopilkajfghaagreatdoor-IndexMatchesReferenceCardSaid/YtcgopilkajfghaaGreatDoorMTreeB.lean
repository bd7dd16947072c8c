import Derived.Test.YtcgopilkajfghaaGreatDoorMTreeA
import Derived.StillTailTactics
import Derived.Deep.AppendLies
set_option linter.unusedVariables false
set_option linter.unusedSimpArgs false

section
/- digest.Root computes the root that rootL names. -/
namespace Go.Proofs.YtcgopilkajfghaaGreatDoor
open Go.RowKit Go.Shelf
attribute [local go_sem] Oper.semAt_some

theorem Parts2.drop {segs : List (List Bytes)} (h : Parts2 segs) (i : Nat) : Parts2 (segs.drop i) := ⟨h.1.drop, fun s hs => h.2 s (List.mem_of_mem_drop hs)⟩
/-- What the roots of the parts make, from the last one on. -/
def foldB (R : List Bytes) (o : Bytes) {m : Nat} (pre : List (Fin m)) : Bytes := pre.foldl (fun o i => nodeB (R.getD i.1 []) o) o
theorem foldB_snoc (R : List Bytes) (o : Bytes) {m : Nat} (pre : List (Fin m)) (x : Fin m) : foldB R o (pre ++ [x]) = nodeB (R.getD x.1 []) (foldB R o pre) := by unfold foldB; rw [List.foldl_append]; rfl
theorem foldB_back {segs : List (List Bytes)} (h : Parts2 segs) (M : Nat) (hM : segs.length = M + 1) : ∀ k, k ≤ M → foldB (segs.map rootL) (rootL (segs.getD M [])) (dn M k) = rootL (segs.drop (M - k)).flatten
  | 0, _ => by
    have e : segs.drop M = [segs.getD M []] := by
      rw [List.drop_eq_getElem_cons (by omega), List.drop_eq_nil_of_le (by omega), List.getD_eq_getElem?_getD, List.getElem?_eq_getElem (by omega)]
      rfl
    rw [Nat.sub_zero, e, List.flatten_cons, List.flatten_nil, List.append_nil]
    rfl
  | k + 1, hk => by
    rw [dn_succ M k (by omega), foldB_snoc, foldB_back h M hM k (by omega)]
    have hi : M - (k + 1) < segs.length := by omega
    have e : segs.drop (M - (k + 1)) = segs[M - (k + 1)] :: segs.drop (M - k) := by rw [List.drop_eq_getElem_cons hi, show M - (k + 1) + 1 = M - k from by omega]
    have hp := h.drop (M - (k + 1))
    rw [e] at hp ⊢
    rw [List.flatten_cons, rootL_parts hp (by intro h0; have := congrArg List.length h0; rw [List.length_drop] at this; simp at this; omega)]
    congr 1
    show (segs.map rootL).getD (M - 1 - k) [] = _
    rw [List.getD_eq_getElem?_getD, List.getElem?_map, show M - 1 - k = M - (k + 1) from by omega, List.getElem?_eq_getElem hi]
    rfl
theorem foldB_length (R : List Bytes) {m : Nat} : ∀ (pre : List (Fin m)) (o : Bytes), o.length = 32 → (foldB R o pre).length = 32
  | [], _, ho => ho
  | x :: t, o, _ => foldB_length R t (nodeB (R.getD x.1 []) o) (nodeB_length _ _)
/-- At the head of the loop over the entries. -/
def RootI (l : List Bytes) (base : Nat) (k : Nat) (v3 v4 : Value) (wr : World) : Prop :=
  ∃ segs : List (List Bytes), Parts2 segs ∧ segs.flatten = l.take k ∧ OwnS base wr v3 (segs.map rootL) ∧ OwnN base wr v4 (segs.map List.length)
theorem map_len_le (segs : List (List Bytes)) (h : Parts2 segs) : segs.length ≤ segs.flatten.length := by
  have : ∀ s ∈ segs, 1 ≤ s.length := fun s hs => by obtain ⟨e, he⟩ := h.2 s hs; have : 0 < 2 ^ e := Nat.pow_pos (by decide); omega
  clear h
  induction segs with
  | nil => simp
  | cons a t ih =>
    have h1 := this a (by simp)
    have h2 := ih (fun s hs => this s (by simp [hs]))
    rw [List.flatten_cons, List.length_append, List.length_cons]
    omega
theorem grown_of_below {W W' : World} (h : Below W.heap.size W W') (row : Option Nat) : W.grownBy W' row := ⟨h.os, h.tape, h.output, h.size, fun k hk _ => h.block k hk⟩
/-- An element of a list of strings. -/
def gB (R : List Bytes) (i : Nat) : ByteArray := bs (R.getD i [])
/-- Between two rounds of the last loop. -/
def FoldI (R : List Bytes) (o : Bytes) (m Bo : Nat) (W0 : World) (pre : List (Fin m)) (W : World) : Prop := Boxed W Bo 9 (.string (bs (foldB R o pre))) ∧ W0.grownBy W (some Bo)
theorem foldI_own (R : List Bytes) (o : Bytes) (m Bo B : Nat) (W0 : World) (hB : W0.heap.size ≤ B) (hH : Bo < B) : OwnFrom B (FoldI R o m Bo W0) := by
  intro s W W' row h hg hr
  refine ⟨(hg.block Bo h.1.lt (fun e => by have := (hr Bo e.symm).1; omega)).trans h.1, World.grownBy.andThen h.2 hg fun j hj => .inl ?_⟩
  have := (hr j hj).1
  omega
theorem Rounds.grown {w w' : World} {Bo : Nat} (h : Rounds w) (hg : w.grownBy w' (some Bo)) (hne : 0 ≠ Bo) : Rounds w' := fun j hj => hg.cell (h j hj) (fun e => hne (Option.some.inj e))
set_option maxRecDepth 100000 in
set_option maxHeartbeats 2000000 in
theorem root_any (v : Value) (l : List Bytes) (w : World) (hL : StrsAt w.heap.size w v l) (hlen : l.length ≤ 1000000) (hel : ∀ x ∈ l, x.length ≤ 274877906944) (hT : Rounds w) :
    Calls Tryz.prog 57 #[v] w fun e w' => e = .returned (.string (bs (rootL l))) ∧ Below w.heap.size w w' := by
  obtain ⟨av, cv, rfl, hcv1, hcv2⟩ := hL.shape
  unfold maxLen at hcv2
  have HL := Lib.hid hL
  have HEl := Lib.hid hel
  have HT := Lib.hid hT
  clear hL hel hT
  generalize hn : l.length = n at *
  have Hn := Lib.hid hn
  clear hn
  refine (callsIn_wide (n := 4)).1 ?_
  refine callsIn_of_wp_marks Tryz.func57 rfl trivial ?_
  simp only [Tryz.ntmps57, List.size_toArray, List.length_cons, List.length_nil, Nat.reduceAdd, Nat.reduceSub, Array.replicate_succ, Array.replicate_zero, List.push_toArray, List.append_toArray, List.nil_append, List.cons_append]
  refine wpIn_wide.2 ?_
  go_wp2
  go_loopw [3, 4, 13] (fun v3 v4 i wr => ∃ k : Nat, k ≤ n ∧ i = .int .i64 k ∧ Below w.heap.size w wr ∧ RootI l w.heap.size k v3 v4 wr) (fun _ _ i _ => n - (intOf i).toNat)
  case atStart => exact ⟨0, Nat.zero_le _, rfl, Below.refl _ _, [], ⟨by simp, by simp⟩, by simp, OwnS.nil _ _, OwnN.nil _ _⟩
  case round =>
    obtain ⟨k, hk, rfl, hB, segs, hP, hF, hS, hN⟩ := hrel
    have hzB := hB.size
    by_cases hlt : k < n
    · obtain ⟨bl, off, hae, hbl, hcl⟩ := HL.out.at k (by rw [Hn.out]; exact hlt)
      subst hae
      have c1 := (hB.cell (p := ⟨bl, off + k, none⟩) hbl).trans hcl
      have HX := Lib.hid (HEl.out _ (getD_mem' l [] k (by rw [Hn.out]; exact hlt)))
      have HTk : Hid (l.take (k + 1) = l.take k ++ [l.getD k []]) := by show _ = _; exact take_getD l [] k (by rw [Hn.out]; exact hlt)
      generalize l.getD k [] = x at c1 HX HTk
      have kk : (k : Int) < (n : Int) := by omega
      have HP := Lib.hid hP
      have HF := Lib.hid hF
      have hsl := map_len_le segs hP
      rw [hF, List.length_take, Hn.out] at hsl
      have hl3 : (segs.map rootL).length < 1099511627776 := by rw [List.length_map]; omega
      have hl4 : (segs.map List.length).length < 1099511627776 := by rw [List.length_map]; omega
      have HS := Lib.hid hS
      have HN := Lib.hid hN
      have HLf := Lib.hid (leaf_any (bs x) wr (by rw [bs_size]; exact HX.out) (HT.out.below hB (Nat.le_refl _)))
      rw [bs_list] at HLf
      clear hP hF hS hN hcl
      go_wp2_with fail
      refine HLf.out.mono ?_
      rintro e w1 ⟨rfl, hb1⟩
      have hz1 := hb1.size
      have HB1 : Hid (Below w.heap.size w w1) := hB.trans (hb1.mono hzB)
      have HS1 := Lib.hid (HS.out.below hb1 (Nat.le_refl _))
      have HN1 := Lib.hid (HN.out.below hb1 (Nat.le_refl _))
      have HN1a := Lib.hid (HN1.out.below ((Below.refl _ _).alloc (Nat.le_refl _) (.cells #[.string (bs (leafB x))] 9)) (Nat.le_refl _))
      have HS1a := Lib.hid (World.ownsRow.alloc HS1.out (.cells #[.string (bs (leafB x))] 9))
      clear HS HN HLf hb1
      go_wp2_with (first
        | (at_builtin; refine append_S rfl _ _ rfl w.heap.size u3 (segs.map rootL) (leafB x) rfl rfl HS1.out hl3 (by omega) w HB1.out ?_; intro v5 w2 hS2 hg2 hb2; have hz2 := hb2.size; have HS2 := Lib.hid hS2; have HN2 := Lib.hid (show OwnN w.heap.size w2 u4 (segs.map List.length) from row_kept HN1a.out HS1a.out (by decide) hg2); clear hS2 hg2)
        | (at_builtin; refine append_N rfl _ _ rfl w.heap.size u4 (segs.map List.length) 1 rfl rfl HN2.out hl4 (by omega) w hb2 ?_; intro v6 w3 hN3 hg3 hb3; obtain ⟨g4, cp4, hv6, _, _, _, _⟩ := hN3.shape3 (by simp); rw [List.length_append, List.length_map, List.length_singleton] at hv6; subst hv6; have HN3 := Lib.hid hN3; have HS3 := Lib.hid (show OwnS w.heap.size w3 v5 (segs.map rootL ++ [leafB x]) from row_kept (HS2.out.below ((Below.refl _ _).alloc (Nat.le_refl _) (.cells #[.int .i64 ((1 : Nat) : Int)] 3)) (Nat.le_refl _)) (World.ownsRow.alloc HN2.out (.cells #[.int .i64 ((1 : Nat) : Int)] 3)) (by decide) hg3); clear hN3 hg3))
      have HS4 : Hid (OwnS w.heap.size w3 v5 ((segs ++ [[x]]).map rootL)) := by show OwnS _ _ _ _; rw [List.map_append, List.map_singleton, rootL_one]; exact HS3.out
      have HN4 : Hid (OwnN w.heap.size w3 (.slice (some ⟨g4, 0, none⟩) (segs.length + 1) cp4) ((segs ++ [[x]]).map List.length)) := by show OwnN _ _ _ _; rw [List.map_append, List.map_singleton]; exact HN3.out
      have HF4 : Hid (segs.flatten ++ [x] = l.take (k + 1)) := by show _ = _; rw [HTk.out, HF.out]
      have HP4 := Lib.hid (Parts3.push HP.out x)
      clear HS2 HS1 HN2 HN1 HN1a HS1a HS3 HN3 HTk HF HP hsl hl3 hl4 hz1 hz2 hb2
      generalize hNN : segs.length + 1 = NN at *
      have HNN := Lib.hid hNN
      rw [show ((segs.length : Int) + 1) = (NN : Int) from by omega]
      clear hNN
      go_loopw [3, 4, 7] (fun v3 v4 nn wy => ∃ (init : List (List Bytes)) (last : List Bytes) (M : Nat), nn = .int .i64 (M : Int) ∧ M = init.length + 1 ∧ Below w.heap.size w wy ∧ Parts3 init last ∧ init.flatten ++ last = l.take (k + 1) ∧ OwnS w.heap.size wy v3 ((init ++ [last]).map rootL) ∧ OwnN w.heap.size wy v4 ((init ++ [last]).map List.length)) (fun _ _ nn _ => (intOf nn).toNat)
      case atStart => exact ⟨segs, [x], NN, rfl, HNN.out.symm, hb3, HP4.out, HF4.out, HS4.out, HN4.out⟩
      case round =>
        clear HS4 HN4 HF4 HP4 hb3
        obtain ⟨init, last, M, rfl, hM, hBy, hP, hF, hS, hN⟩ := hrel
        have HP := Lib.hid hP
        have HF := Lib.hid hF
        have HS := Lib.hid hS
        have HN := Lib.hid hN
        have hzy := hBy.size
        clear hP hF
        have hMl : M ≤ 1000000 + 1 := by
          have h1 := map_len_le init HP.out.1
          have h2 := congrArg List.length HF.out
          rw [List.length_append, List.length_take, Hn.out] at h2
          omega
        obtain ⟨g4, cp4, hv4, _, _, hc4, _⟩ := hN.shape3 (by simp)
        obtain ⟨g3, cp3, hv3, _, _, hc3, _⟩ := hS.shape3 (by simp)
        rw [List.length_map, List.length_append, List.length_singleton, ← hM] at hv4 hc4 hv3 hc3
        subst hv4
        subst hv3
        clear hS hN
        rcases List.eq_nil_or_concat init with h0 | ⟨init', b, h0⟩
        · subst h0
          have hgd : decide ((1 : Int) < (M : Int)) = false := by simp at hM ⊢; omega
          clear hM
          go_wp2
          go_quiet (fail)
          go_wp2
          go_roundw
          case rel =>
            refine ⟨k + 1, by omega, by go_num, below_drewN0 hBy _, [last], HP.out.alone, ?_, HS.out, HN.out⟩
            rw [← HF.out]; simp
          case measure => simp [intOf]; omega
        · rw [List.concat_eq_append] at h0
          subst h0
          have hMm : M = init'.length + 2 := by rw [hM]; simp
          obtain ⟨m, hm⟩ : ∃ m, m = init'.length := ⟨_, rfl⟩
          have hM2 : M = m + 2 := by omega
          have Hm := Lib.hid hm
          have e1 : ((init' ++ [b] ++ [last]).map List.length).getD m 0 = b.length := by rw [hm]; simp [List.getD_eq_getElem?_getD]
          have e2 : ((init' ++ [b] ++ [last]).map List.length).getD (m + 1) 0 = last.length := by rw [hm]; simp [List.getD_eq_getElem?_getD]
          have e3 : ((init' ++ [b] ++ [last]).map rootL).getD m [] = rootL b := by rw [hm]; simp [List.getD_eq_getElem?_getD]
          have e4 : ((init' ++ [b] ++ [last]).map rootL).getD (m + 1) [] = rootL last := by rw [hm]; simp [List.getD_eq_getElem?_getD]
          have HN2c := Lib.hid (fun (W : World) (h : OwnN w.heap.size W (.slice (some ⟨g4, 0, none⟩) M cp4) ((init' ++ [b] ++ [last]).map List.length)) => h.cell (m + 1) (by simp; omega))
          rw [e2] at HN2c
          have n1 := HN.out.cell m (by simp; omega)
          have n2 := HN.out.cell (m + 1) (by simp; omega)
          rw [e1] at n1
          rw [e2] at n2
          have HS1 := Lib.hid (fun (W : World) (h : OwnS w.heap.size W (.slice (some ⟨g3, 0, none⟩) M cp3) ((init' ++ [b] ++ [last]).map rootL)) => h.cell m (by simp; omega))
          have HS2 := Lib.hid (fun (W : World) (h : OwnS w.heap.size W (.slice (some ⟨g3, 0, none⟩) M cp3) ((init' ++ [b] ++ [last]).map rootL)) => h.cell (m + 1) (by simp; omega))
          rw [e3] at HS1
          rw [e4] at HS2
          clear e1 e2 e3 e4 hm hM hMm
          have hgd : decide ((1 : Int) < (M : Int)) = true := by simp; omega
          have w2' : IntKind.i64.wrap ((M : Int) - 2) = (M : Int) - 2 := IntWalk.i64_in _ (by omega)
          have w1' : IntKind.i64.wrap ((M : Int) - 1) = (M : Int) - 1 := IntWalk.i64_in _ (by omega)
          have z2 : 2 ≤ (M : Int) := by omega
          have z1 : 1 ≤ (M : Int) := by omega
          have y2 : 0 ≤ (M : Int) - 2 := by omega
          have y1 : 0 ≤ (M : Int) - 1 := by omega
          have l2 : (M : Int) - 2 < (M : Int) := by omega
          have l1 : (M : Int) - 1 < (M : Int) := by omega
          have t2 : ((M : Int) - 2).toNat = m := by omega
          have t1 : ((M : Int) - 1).toNat = m + 1 := by omega
          have k2 : (M : Int) - 2 ≤ (cp3 : Int) := by omega
          have k4 : (M : Int) - 2 ≤ (cp4 : Int) := by omega
          have hmB : m ≤ 1000000 := by omega
          have hlb : last.length ≤ 1000000 := by
            have h2 := congrArg List.length HF.out
            rw [List.length_append, List.length_take, Hn.out] at h2
            omega
          have HM2 := Lib.hid hM2
          clear hM2
          by_cases hbe : b.length = last.length
          · have heq : (((b.length : Nat) : Int) == ((last.length : Nat) : Int)) = true := by simp [hbe]
            have HBe := Lib.hid hbe
            clear hbe
            go_wp2
            go_quiet (fail)
            go_wp2
            refine wp_gen (fun W' => Below w.heap.size w W' ∧ OwnS w.heap.size W' (.slice (some ⟨g3, 0, none⟩) M cp3) ((init' ++ [b] ++ [last]).map rootL) ∧ OwnN w.heap.size W' (.slice (some ⟨g4, 0, none⟩) M cp4) ((init' ++ [b] ++ [last]).map List.length)) ⟨below_drewN0 hBy _, HS.out, HN.out⟩ ?_
            rintro W4 ⟨hB4, hS4, hN4⟩
            have HB4 := Lib.hid hB4
            have HS4 := Lib.hid hS4
            have HN4 := Lib.hid hN4
            have hz4 := hB4.size
            have q1 : W4.drew.cell? ⟨g3, m, none⟩ = some (.string (bs (rootL b))) := HS1.out W4 hS4
            have q2 : W4.drew.cell? ⟨g3, m + 1, none⟩ = some (.string (bs (rootL last))) := HS2.out W4 hS4
            clear hBy hS4 hN4 hB4 n1 n2 HS HN
            have HNd := Lib.hid (node_any (bs (rootL b)) (bs (rootL last)) W4.drew (by rw [bs_size, rootL_length]; decide) (by rw [bs_size, rootL_length]; decide) (HT.out.below HB4.out.drew (Nat.le_refl _)))
            rw [bs_list, bs_list] at HNd
            have HTk : Hid (OwnS w.heap.size W4.drew (.slice (some ⟨g3, 0, none⟩) m cp3) (init'.map rootL)) := by
              have h1 := HS4.out.take m (by simp; have := Hm.out; omega)
              rw [show ((init' ++ [b] ++ [last]).map rootL).take m = init'.map rootL from by rw [Hm.out]; simp] at h1
              exact h1
            have Hm' : Hid ((init'.map rootL).length = m) := by show _ = _; rw [List.length_map, Hm.out]
            obtain ⟨i0, hi0, hz0, hz1, hz2⟩ := info_parts infoS1
            refine wp_region_noPanic ?_
            go_region_law (first | (go_simp; go_at_call 69; refine HNd.out.mono ?_; rintro e w5 ⟨rfl, hb5⟩; have hz5 : w.heap.size ≤ w5.heap.size := (Nat.le_trans HB4.out.size hb5.size); have HTk5 := Lib.hid (HTk.out.below hb5 (Nat.le_refl _))) | (refine step_append_lies _ (by rfl) _ _ 91 (by rfl) w.heap.size 9 i0 _ 1 16 Tryz.underlying91 hi0 hz0 hz1 hz2 rfl (by omega) (.slice (some ⟨g3, 0, none⟩) m cp3) m _ (by rfl) (World.ownsRow.alloc (by have := HTk5.out; unfold OwnS at this; rw [Hm'.out] at this; exact this) _) ⟨w5.heap.size, 0, none⟩ 1 1 [.string (bs (nodeB (rootL b) (rootL last)))] (by rfl) (by rfl) (World.news_of_block (heap_alloc_new w5 _)) (by simp [Value.oneCell']) (by omega) (by unfold maxLen; omega) (by omega) (by simp; omega) (w5.heap.size + 1) (by simp) ?_; intro gg cap w6 hown6 hgrow hat hlt6))
            all_goals
              refine NoPanic.normal ?_
              have HJ := Lib.hid (Parts3.join HP.out HBe.out)
              have hS6 : OwnS w.heap.size w6 (.slice (some ⟨gg, 0, none⟩) (m + 1) cap) ((init' ++ [b ++ last]).map rootL) := by
                unfold OwnS
                rw [List.map_append, List.map_singleton, HJ.out.2, List.length_append, Hm'.out, List.map_append]
                exact hown6
              have hN5 : OwnN w.heap.size w5 (.slice (some ⟨g4, 0, none⟩) M cp4) ((init' ++ [b] ++ [last]).map List.length) := (show OwnN w.heap.size W4.drew _ _ from HN4.out).below hb5 (Nat.le_refl _)
              have hN6 : OwnN w.heap.size w6 (.slice (some ⟨g4, 0, none⟩) M cp4) ((init' ++ [b] ++ [last]).map List.length) := row_kept (World.ownsRow.alloc hN5 _) (World.ownsRow.alloc (show w5.ownsRow w.heap.size 9 1 (.slice (some ⟨g3, 0, none⟩) m cp3) m _ from by have := HTk5.out; unfold OwnS at this; rw [Hm'.out] at this; exact this) _) (by decide) hgrow
              have hB5 : Below w.heap.size w w5 := HB4.out.drew.trans (hb5.mono (by show w.heap.size ≤ W4.heap.size; exact hz4))
              have hB6 : Below w.heap.size w w6 := (hB5.alloc hz5 _).grown hgrow (by simp; omega) (fun k hk => (World.ownsRow.lt (World.ownsRow.alloc (show w5.ownsRow w.heap.size 9 1 (.slice (some ⟨g3, 0, none⟩) m cp3) m _ from by have := HTk5.out; unfold OwnS at this; rw [Hm'.out] at this; exact this) (.cells #[.string (bs (nodeB (rootL b) (rootL last)))] 9)) k hk).1)
              clear hown6 hgrow hat hlt6 hN5 hb5 q1 q2 HTk5 HTk HNd
              change Exit.then _ _ _ (Act.put _ (some 3) _) _
              go_wp2
              refine wp_gen (fun W' => Below w.heap.size w W' ∧ OwnS w.heap.size W' (.slice (some ⟨gg, 0, none⟩) (m + 1) cap) ((init' ++ [b ++ last]).map rootL) ∧ OwnN w.heap.size W' (.slice (some ⟨g4, 0, none⟩) M cp4) ((init' ++ [b] ++ [last]).map List.length)) ⟨hB6, hS6, hN6⟩ ?_
              clear hB5 hB6 hS6 hN6 hz5
              rintro W7 ⟨hB7, hS7, hN7⟩
              have hz7 := hB7.size
              have n7 : W7.drew.cell? ⟨g4, m + 1, none⟩ = some (.int .i64 (last.length : Int)) := HN2c.out W7 hN7
              have HTk7 : Hid (W7.drew.ownsRow w.heap.size 3 1 (.slice (some ⟨g4, 0, none⟩) m cp4) m ((init'.map List.length).map (fun (n : Nat) => Value.int .i64 (n : Int)))) := by
                have h1 := hN7.take m (by simp; have := Hm.out; omega)
                rw [show ((init' ++ [b] ++ [last]).map List.length).take m = init'.map List.length from by rw [Hm.out]; simp] at h1
                unfold OwnN at h1
                rw [List.length_map, ← Hm.out] at h1
                exact h1
              have HB7 := Lib.hid hB7
              have HS7 := Lib.hid hS7
              have hw2 : IntKind.i64.wrap (2 * (last.length : Int)) = 2 * (last.length : Int) := IntWalk.i64_in _ (by omega)
              clear hB7 hS7 hN7
              obtain ⟨i1, hi1, hy0, hy1, hy2⟩ := info_parts infoN1
              refine wp_region_noPanic ?_
              go_region_law ((refine step_append_lies _ (by rfl) _ _ 42 (by rfl) w.heap.size 3 i1 _ 1 8 Tryz.underlying42 hi1 hy0 hy1 hy2 rfl (by omega) (.slice (some ⟨g4, 0, none⟩) m cp4) m _ (by rfl) (World.ownsRow.alloc HTk7.out _) ⟨W7.heap.size, 0, none⟩ 1 1 [.int .i64 (2 * (last.length : Int))] (by rfl) (by rfl) (World.news_of_block (heap_alloc_new W7.drew _)) (by simp [Value.oneCell']) (by omega) (by unfold maxLen; omega) (by omega) (by simp; omega) (W7.heap.size + 1) (by simp) ?_; intro gh caq w8 hown8 hgrow8 hat8 hlt8))
              all_goals
                refine NoPanic.normal ?_
                have hN8 : OwnN w.heap.size w8 (.slice (some ⟨gh, 0, none⟩) (m + 1) caq) ((init' ++ [b ++ last]).map List.length) := by
                  unfold OwnN
                  rw [List.map_append, List.map_singleton, List.length_append, List.length_map, ← Hm.out, List.map_append, List.length_append, HBe.out, show last.length + last.length = 2 * last.length from by omega]
                  exact hown8
                have hS8 : OwnS w.heap.size w8 (.slice (some ⟨gg, 0, none⟩) (m + 1) cap) ((init' ++ [b ++ last]).map rootL) := row_kept (World.ownsRow.alloc (show OwnS w.heap.size W7.drew _ _ from HS7.out) _) (World.ownsRow.alloc HTk7.out _) (by decide) hgrow8
                have hB8 : Below w.heap.size w w8 := (HB7.out.drew.alloc hz7 _).grown hgrow8 (by simp; omega) (fun k hk => (World.ownsRow.lt (World.ownsRow.alloc HTk7.out (.cells #[.int .i64 (2 * (last.length : Int))] 3)) k hk).1)
                have HR8 : Hid (init'.flatten ++ (b ++ last) = l.take (k + 1)) := by show _ = _; rw [← HF.out]; simp
                clear hown8 hgrow8 hat8 hlt8 n7 hw2
                change Exit.inBlock _ _ _ (Act.put _ (some 4) _) _
                go_wp2
                go_roundw
                case rel => exact ⟨init', b ++ last, m + 1, congrArg (Value.int .i64) (by have := HM2.out; omega), by rw [Hm.out], hB8, HJ.out.1, HR8.out, hS8, hN8⟩
                case measure => simp [intOf]; have := HM2.out; omega
          · have heq : (((b.length : Nat) : Int) == ((last.length : Nat) : Int)) = false := by simp; omega
            go_wp2
            go_quiet (fail)
            go_wp2
            go_roundw
            case rel => exact ⟨k + 1, by omega, by go_num, below_drewN0 hBy _, init' ++ [b] ++ [last], HP.out.done hbe, by rw [← HF.out]; simp, HS.out, HN.out⟩
            case measure => simp [intOf]; omega
    · obtain rfl : k = n := by omega
      rw [List.take_of_length_le (by rw [Hn.out]; exact Nat.le_refl _)] at hF
      have HP := Lib.hid hP
      have HF := Lib.hid hF
      have HS := Lib.hid hS
      clear hP hF hS hN hlt hk
      rcases List.eq_nil_or_concat segs with h0 | ⟨init, last, h0⟩
      · subst h0
        obtain ⟨a3, cp3, hv3, _, _⟩ := HS.out.shape2
        rw [show (([] : List (List Bytes)).map rootL).length = 0 from rfl] at hv3
        subst hv3
        have hl : l = [] := by rw [← HF.out]; rfl
        have HR : Hid (rootL l = sha []) := by show _ = _; rw [hl]; rfl
        have HSm := Lib.hid (sum_any (⟨#[]⟩ : ByteArray) wr (by show 0 ≤ _; omega) (HT.out.below hB (Nat.le_refl _)))
        rw [show ((⟨#[]⟩ : ByteArray).data.toList) = [] from rfl] at HSm
        clear hl HS
        go_wp2_with (go_at_call 70; refine HSm.out.mono ?_; rintro e w9 ⟨rfl, hb9⟩)
        refine leaves_marks (B := w.heap.size) [] w9 ⟨by simp, by simp⟩ fun W9 hb' _ => ?_
        exact ⟨_, results_tmp rfl _ _ _, by rw [HR.out]; rfl, (hB.trans (hb9.mono hzB)).trans hb'⟩
      · rw [List.concat_eq_append] at h0
        subst h0
        obtain ⟨g3, cp3, hv3, hg3, hg3', hc3, hc3'⟩ := HS.out.shape3 (by simp)
        obtain ⟨M, hM⟩ : ∃ M, M = init.length := ⟨_, rfl⟩
        have HM := Lib.hid hM
        rw [List.length_map, List.length_append, List.length_singleton, ← hM] at hv3 hc3
        have e3 : ((init ++ [last]).map rootL).getD M [] = rootL last := by rw [hM]; simp [List.getD_eq_getElem?_getD]
        have q1 := fun W (h : OwnS w.heap.size W u3 ((init ++ [last]).map rootL)) => (show OwnS w.heap.size W (.slice (some ⟨g3, 0, none⟩) (M + 1) cp3) ((init ++ [last]).map rootL) from hv3 ▸ h).cell
        have q2 := q1 wr HS.out M (by simp; omega)
        rw [e3] at q2
        have Hq := Lib.hid (q1 wr HS.out)
        have hMb : M ≤ 1000000 := by
          have h1 := map_len_le _ HP.out
          rw [HF.out, Hn.out] at h1
          simp at h1
          omega
        subst hv3
        clear q1 e3 hM
        obtain ⟨N, hN⟩ : ∃ N, N = M + 1 := ⟨_, rfl⟩
        have HN := Lib.hid hN
        have hne : (((N : Nat) : Int) == 0) = false := by simp; omega
        have w1' : IntKind.i64.wrap ((N : Int) - 1) = (N : Int) - 1 := IntWalk.i64_in _ (by omega)
        have z1 : 1 ≤ (N : Int) := by omega
        have y1 : 0 ≤ (N : Int) - 1 := by omega
        have l1 : (N : Int) - 1 < (N : Int) := by omega
        have t1 : ((N : Int) - 1).toNat = M := by omega
        have k1 : (N : Int) - 1 ≤ (cp3 : Int) := by omega
        rw [← hN] at HS hc3 ⊢
        clear hN
        go_wp2_with (go_at_call 71; refine (back_any _ ⟨_, _, _, rfl⟩ _).mono ?_; rintro e w' ⟨rfl, rfl⟩)
        have hr0 : Below wr.heap.size wr ((wr.alloc (.cells #[.string (bs (rootL last))] 9)).alloc (.cells #[.slice (some ⟨g3, 0, none⟩) M cp3] 91)) := ((Below.refl _ _).alloc (Nat.le_refl _) _).alloc (by simp) _
        have hbo : Boxed ((wr.alloc (.cells #[.string (bs (rootL last))] 9)).alloc (.cells #[.slice (some ⟨g3, 0, none⟩) M cp3] 91)) wr.heap.size 9 (.string (bs (rootL last))) := (Boxed.new wr 9 (.string (bs (rootL last)))).alloc _
        have hbs : Boxed ((wr.alloc (.cells #[.string (bs (rootL last))] 9)).alloc (.cells #[.slice (some ⟨g3, 0, none⟩) M cp3] 91)) (wr.heap.size + 1) 91 (.slice (some ⟨g3, 0, none⟩) M cp3) := by
          have := Boxed.new (wr.alloc (.cells #[.string (bs (rootL last))] 9)) 91 (.slice (some ⟨g3, 0, none⟩) M cp3)
          rwa [World.size_alloc] at this
        have hzr : ((wr.alloc (.cells #[.string (bs (rootL last))] 9)).alloc (.cells #[.slice (some ⟨g3, 0, none⟩) M cp3] 91)).heap.size = wr.heap.size + 2 := by simp
        obtain ⟨W2, hW2⟩ : ∃ W2, W2 = (wr.alloc (.cells #[.string (bs (rootL last))] 9)).alloc (.cells #[.slice (some ⟨g3, 0, none⟩) M cp3] 91) := ⟨_, rfl⟩
        rw [← hW2] at hr0 hbo hbs hzr ⊢
        clear hW2
        have HR : Hid (∀ x ∈ (init ++ [last]).map rootL, x.length = 32) := fun x hx => by
          obtain ⟨y, _, rfl⟩ := List.mem_map.1 hx
          exact rootL_length y
        have HBack : Hid (foldB ((init ++ [last]).map rootL) (rootL last) (dn M M) = rootL l) := by
          have h1 := foldB_back HP.out M (by simp; exact HM.out.symm) M (Nat.le_refl _)
          rw [show (init ++ [last]).getD M [] = last from by rw [HM.out]; simp [List.getD_eq_getElem?_getD]] at h1
          show _ = _
          rw [h1, Nat.sub_self, List.drop_zero, HF.out]
        have hRlen : ((init ++ [last]).map rootL).length = M + 1 := by simp; exact HM.out.symm
        have HRlen := Lib.hid hRlen
        clear hRlen
        have hcells : ∀ i, i < M → W2.cell? ⟨g3, 0 + i, none⟩ = some (.string (bs (((init ++ [last]).map rootL).getD i []))) := fun i hi => by
          rw [Nat.zero_add]
          exact (hr0.cell (p := ⟨g3, i, none⟩) hg3').trans (Hq.out i (by rw [HRlen.out]; omega))
        generalize (init ++ [last]).map rootL = R at *
        have hTr : Rounds W2 := (HT.out.below hB (Nat.le_refl _)).below hr0 (Nat.le_refl _)
        have hgl : 0 ≠ wr.heap.size := fun e => by have := (HT.out.below hB (Nat.le_refl _)).lt; omega
        have HTr := Lib.hid hTr
        clear hTr
        refine (wpIn_wide (n := 4)).1 ?_
        refine wpIn_rangeFunc_ownG rfl (by omega) (gf := 86) (lb := #[.pointer (some ⟨wr.heap.size + 1, 0, none⟩)]) rfl trivial (enters_of Tryz.func86 (by kernel_rfl) rfl)
          (back1_seq _ (wr.heap.size + 1) g3 0 M cp3 (some ⟨g3, 0, none⟩) (gB R) (KpBut W2.heap.size wr.heap.size) W2 hbs (by omega) (fun _ => rfl) hcells (fun A B h => h _ (by omega) (by omega)) (fun A B h => h _ (by omega) (by omega))) kpBut_t (kpBut_b (Nat.le_refl _)) (Below.refl _ _) (fun _ => rfl)
          (FoldI R (rootL last) M wr.heap.size W2) (fun _ _ _ => False) (foldI_own _ _ _ _ _ _ (Nat.le_refl _) (by omega)) (fun c => fun _ _ _ _ h => h.elim)
          ⟨hbo, World.grownBy.refl _ _⟩ ?a1 ?assign ?body ?done ?stop
        case assign =>
          intro l' x W' K hK
          gi_wp2
          exact hK
        case stop =>
          rintro D c pre W' _ _ h _
          exact h.elim
        case body =>
          rintro l' pre ⟨x, hx⟩ W' ⟨hbx, hG⟩ hlt
          dsimp only
          have hzG := hG.size
          have hflen := foldB_length R pre (rootL last) (rootL_length _)
          have HNd := Lib.hid (node_any (gB R x) (bs (foldB R (rootL last) pre)) W' (by rw [show (gB R x).size = (R.getD x []).length from bs_size _, HR.out _ (getD_mem' _ _ _ (by rw [HRlen.out]; omega))]; decide) (by rw [bs_size, hflen]; decide) (HTr.out.grown hG hgl))
          rw [bs_list, show (gB R x).data.toList = R.getD x [] from rfl] at HNd
          have HSn := Lib.hid (foldB_snoc R (rootL last) pre ⟨x, hx⟩)
          have cb := hbx.cell
          have HBx := Lib.hid hbx
          have HG := Lib.hid hG
          clear hbx hG hflen
          generalize R.getD x [] = rx at *
          generalize gB R x = rxb at *
          generalize foldB R (rootL last) pre = ox at *
          gi_wp2_with (refine ⟨trivial, ?_⟩; gi_at_call 69; refine (CallsIn.inRound l' (callsIn_wide.2 HNd.out)).mono ?_; rintro e w3 ⟨rfl, hb3⟩; have hb3x : Boxed w3 wr.heap.size 9 (.string (bs ox)) := (hb3.block _ HBx.out.lt).trans HBx.out; have cb3 := hb3x.cell; have fb3 := hb3x.frozen)
          have hg3' : W'.grownBy (w3.setCell ⟨wr.heap.size, 0, none⟩ (.string (bs (nodeB rx ox)))) (some wr.heap.size) := grownBy_set (grown_of_below hb3 _)
          refine ⟨KeepsFrom.of_grownBy hg3' (fun j hj => by cases hj; omega), kpBut_grown hg3' hzG, ?_, HG.out.trans hg3'⟩
          rw [HSn.out]
          exact hb3x.set _
        case done =>
          rintro D xs W' hD rfl ⟨hbx, hG⟩ hK
          rw [HBack.out] at hbx
          have cb := hbx.cell
          have HK := Lib.hid hK
          have hzG := hG.size
          have HG := Lib.hid hG
          clear hK hG hbx
          go_wp2
          have hKD := HK.out
          have hall : Below w.heap.size w W' := ((hB.trans (hr0.mono hzB)).grown HG.out (by omega) (fun k hk => by cases hk; omega))
          refine leaves_marks (B := w.heap.size) [D] W' ⟨by simp, fun D' hD' => ?_⟩ fun W9 hb' _ => ?_
          · rw [List.mem_singleton.1 hD']
            exact ⟨by omega, hKD⟩
          · exact ⟨_, results_tmp rfl _ _ _, rfl, hall.trans hb'⟩
end Go.Proofs.YtcgopilkajfghaaGreatDoor
end

section
/- Parts of lists of strings (for seats without digest.Proof). -/
set_option linter.unusedVariables false
set_option linter.unusedSimpArgs false
namespace Go.Proofs.YtcgopilkajfghaaGreatDoor
open Go.RowKit Go.Shelf

theorem StrsAt.take {B : Nat} {w : World} {a : Option Addr} {n c : Nat} {l : List Bytes} (h : StrsAt B w (.slice a n c) l) (m : Nat) (hm : m ≤ l.length) : StrsAt B w (.slice a m c) (l.take m) := by
  obtain ⟨a', c', he, h1, h2, h3⟩ := h
  cases he
  have hl : (l.take m).length = m := by rw [List.length_take]; omega
  refine ⟨a, c, by rw [hl], by omega, h2, fun hp => ?_⟩
  rw [hl] at hp
  obtain ⟨b, off, ha, hb, hc⟩ := h3 (by omega)
  refine ⟨b, off, ha, hb, fun i hi => ?_⟩
  rw [hl] at hi
  rw [hc i (by omega), List.getD_eq_getElem?_getD, List.getD_eq_getElem?_getD, List.getElem?_take, if_pos hi]
theorem StrsAt.drop {B : Nat} {w : World} {b off n c : Nat} {l : List Bytes} (h : StrsAt B w (.slice (some ⟨b, off, none⟩) n c) l) (k : Nat) (hk : k ≤ l.length) : StrsAt B w (.slice (some ⟨b, off + k, none⟩) (n - k) (c - k)) (l.drop k) := by
  obtain ⟨a', c', he, h1, h2, h3⟩ := h
  cases he
  have hl : (l.drop k).length = l.length - k := List.length_drop ..
  refine ⟨_, _, by rw [hl], by omega, by omega, fun hp => ?_⟩
  rw [hl] at hp
  obtain ⟨b', off', ha, hb, hc⟩ := h3 (by omega)
  cases ha
  refine ⟨b, off + k, rfl, hb, fun i hi => ?_⟩
  rw [hl] at hi
  rw [show off + k + i = off + (k + i) from by omega, hc (k + i) (by omega), List.getD_eq_getElem?_getD, List.getD_eq_getElem?_getD, List.getElem?_drop]
theorem StrsAt.addr {B : Nat} {w : World} {a : Option Addr} {n c : Nat} {l : List Bytes} (h : StrsAt B w (.slice a n c) l) (hl : 0 < l.length) : ∃ b off, a = some ⟨b, off, none⟩ := by
  obtain ⟨b, off, ha, _⟩ := h.at 0 hl
  exact ⟨b, off, ha⟩
theorem StrsAt.len {B : Nat} {w : World} {a : Option Addr} {n c : Nat} {l : List Bytes} (h : StrsAt B w (.slice a n c) l) : n = l.length ∧ n ≤ c ∧ c ≤ maxLen := by
  obtain ⟨a', c', he, h1, h2, h3⟩ := h
  cases he
  exact ⟨rfl, h1, h2⟩
theorem bs_toList (l : Bytes) : (bs l).toList = l := by rw [Lib.toList_data]; rfl
end Go.Proofs.YtcgopilkajfghaaGreatDoor
end
