/- digest.Verify. -/
import Derived.Test.YteemhemnkdgehaaDoorDSides
namespace Go.Proofs.YteemhemnkdgehaaDoor
open Go.RowKit Go.Shelf
attribute [local go_sem] Oper.semAt_some

/-- The digests of the way up. -/
def upB (way : List (Bytes × Bool)) (v : Bytes) : Bytes := way.foldr joinB v
theorem upB_snoc (way : List (Bytes × Bool)) (x : Bytes × Bool) (v : Bytes) : upB (way ++ [x]) v = upB way (joinB x v) := by unfold upB; rw [List.foldr_append]; rfl
theorem joinB_length (x : Bytes × Bool) (p : Bytes) : (joinB x p).length = 32 := by
  unfold joinB
  split <;> exact nodeB_length _ _
theorem StrsAt.lastCell {B : Nat} {w : World} {a : Option Addr} {n c : Nat} {l : List Bytes} {x : Bytes} (h : StrsAt B w (.slice a n c) (l ++ [x])) : ∃ b off, a = some ⟨b, off, none⟩ ∧ b < B ∧ w.cell? ⟨b, off + l.length, none⟩ = some (.string (bs x)) := by
  obtain ⟨b, off, ha, hb, hc⟩ := h.at l.length (by simp)
  exact ⟨b, off, ha, hb, by rw [hc]; simp [List.getD_eq_getElem?_getD]⟩
theorem below_of_row {base : Nat} {w1 w' : World} {v : Value} {e : TypeId} {size n : Nat} {xs : List Value} {o : Obj} (hbase : base ≤ w1.heap.size) (hg : (w1.alloc o).grownBy w' v.ownBlock) (h : w1.ownsRow base e size v n xs) : Below base w1 w' :=
  ⟨hg.os, hg.tape, hg.output, Nat.le_trans (by simp) hg.size, fun k hk => by
    have hz : w1.heap.size < (w1.alloc o).heap.size := by simp
    by_cases hlt : k < w1.heap.size
    · rw [hg.block k (by omega) (fun e => by have := (World.ownsRow.lt h k e.symm).1; omega)]
      exact Below.heap_alloc _ _ _ hlt
    · exact absurd hk (by omega)⟩
theorem bs_toList (l : Bytes) : (bs l).toList = l := by rw [Lib.toList_data]; rfl
/-- Between two rounds of the last loop. -/
def UpI (way : List (Bytes × Bool)) (o : Bytes) (m Bo : Nat) (W0 : World) (pre : List (Fin m)) (W : World) : Prop := Boxed W Bo 9 (.string (bs (pre.foldl (fun o i => joinB (way.getD i.1 ([], false)) o) o))) ∧ W0.grownBy W (some Bo)
theorem upI_own (way : List (Bytes × Bool)) (o : Bytes) (m Bo B : Nat) (W0 : World) (hB : W0.heap.size ≤ B) (hH : Bo < B) : OwnFrom B (UpI way o m Bo W0) := by
  intro s W W' row h hg hr
  refine ⟨(hg.block Bo h.1.lt (fun e => by have := (hr Bo e.symm).1; omega)).trans h.1, World.grownBy.andThen h.2 hg fun j hj => .inl ?_⟩
  have := (hr j hj).1
  omega
/-- Where the loop's variable lies. -/
def SideAx (way : List (Bytes × Bool)) (M H : Nat) (fr : Fin M → Nat → Act) (x : Fin M) (a' : Act) (W : World) : Prop := ∃ Bx, H ≤ Bx ∧ W.heap[Bx]? = some (.cells #[.string (gS way x.1), .bool (gF way x.1)] 58 (0, 0)) ∧ a' = fr x Bx
theorem sideAx_own (way : List (Bytes × Bool)) (M H B : Nat) (fr : Fin M → Nat → Act) (x : Fin M) (a' : Act) : OwnFrom B (fun (_ : Unit) W => SideAx way M H fr x a' W) := by
  rintro u W W' row ⟨Bx, h1, h2, h3⟩ hg hr
  refine ⟨Bx, h1, (hg.block Bx (Array.getElem?_eq_some_iff.1 h2).1 fun e => ?_).trans h2, h3⟩
  obtain ⟨_, o, ho, hc⟩ := hr Bx e.symm
  rw [h2] at ho
  cases ho
  cases hc
theorem up_back (way : List (Bytes × Bool)) (o : Bytes) (m : Nat) (hm : way.length = m) : ∀ k, k ≤ m → (dn m k).foldl (fun o i => joinB (way.getD i.1 ([], false)) o) o = upB (way.drop (m - k)) o
  | 0, _ => by rw [Nat.sub_zero, List.drop_eq_nil_of_le (by omega)]; rfl
  | k + 1, hk => by
    have hi : m - (k + 1) < way.length := by omega
    rw [dn_succ m k (by omega), List.foldl_append, up_back way o m hm k (by omega), List.drop_eq_getElem_cons hi, show m - (k + 1) + 1 = m - k from by omega]
    show joinB (way.getD (m - 1 - k) ([], false)) _ = joinB way[m - (k + 1)] (upB (way.drop (m - k)) o)
    rw [show m - 1 - k = m - (k + 1) from by omega, List.getD_eq_getElem?_getD, List.getElem?_eq_getElem hi]
    rfl
/-- At the head of the loop over a proof. -/
def VerI (proof : List Bytes) (n i : Nat) (s : Bytes) (base : Nat) (n' i' : Nat) (v4 v11 : Value) (wr : World) : Prop :=
  ∃ (rest : List Bytes) (way : List (Bytes × Bool)), StrsAt base wr v4 rest ∧ OwnD base wr v11 way ∧ (∀ x ∈ rest, x.length = 32) ∧ (∀ x ∈ way, x.1.length = 32) ∧ rest.length + way.length = proof.length ∧
    valR proof.reverse n i s = (valR rest.reverse n' i' s).map (upB way)
set_option maxRecDepth 100000 in
set_option maxHeartbeats 2000000 in
theorem verify_any (root : Bytes) (n i : Int) (s : Bytes) (v : Value) (proof : List Bytes) (w : World) (hn : -9223372036854775808 ≤ n ∧ n ≤ 9223372036854775807) (hi : -9223372036854775808 ≤ i ∧ i ≤ 9223372036854775807) (hs : s.length ≤ 274877906944) (hL : StrsAt w.heap.size w v proof) (hlen : proof.length ≤ 1000000) (hT : Rounds w) :
    Calls Tryd.prog 21 #[.string (bs root), .int .i64 n, .int .i64 i, .string (bs s), v] w fun e w' => e = .returned (.bool (verB root n i s proof)) ∧ Below w.heap.size w w' := by
  obtain ⟨av, cv, rfl, hcv1, hcv2⟩ := hL.shape
  unfold maxLen at hcv2
  have HV : Hid (verB root n i s proof = (decide (0 ≤ i) && decide (i < n) && digB proof && (valR proof.reverse n.toNat i.toNat s == some root))) := rfl
  have HAll := Lib.hid (all_any _ proof w hL)
  have HL := Lib.hid hL
  have HT := Lib.hid hT
  clear hL hT
  by_cases h0 : i < 0
  · have d0 : decide (i < 0) = true := by simp [h0]
    have HF : Hid (verB root n i s proof = false) := by show _ = _; rw [HV.out, show decide (0 ≤ i) = false from by simp; omega]; rfl
    go_enter Tryd.func21, Tryd.ntmps21
    go_wp2
    go_ret
    exact ⟨by rw [HF.out]; rfl, Below.refl _ _⟩
  by_cases h1 : n ≤ i
  · have d0 : decide (i < 0) = false := by simp; omega
    have d1 : decide (n ≤ i) = true := by simp [h1]
    have HF : Hid (verB root n i s proof = false) := by show _ = _; rw [HV.out, show decide (i < n) = false from by simp; omega]; simp
    go_enter Tryd.func21, Tryd.ntmps21
    go_wp2
    go_ret
    exact ⟨by rw [HF.out]; rfl, Below.refl _ _⟩
  have d0 : decide (i < 0) = false := by simp; omega
  have d1 : decide (n ≤ i) = false := by simp; omega
  cases hd : digB proof
  · rw [hd] at HAll
    have HF : Hid (verB root n i s proof = false) := by show _ = _; rw [HV.out, hd]; simp
    clear hd
    go_enter Tryd.func21, Tryd.ntmps21
    go_wp2_with (go_at_call 45; refine HAll.out.mono ?_; rintro e w' ⟨rfl, rfl⟩)
    go_ret
    exact ⟨by rw [HF.out]; rfl, Below.refl _ _⟩
  · obtain ⟨j, rfl⟩ := Int.eq_ofNat_of_zero_le (show 0 ≤ i by omega)
    obtain ⟨m, rfl⟩ := Int.eq_ofNat_of_zero_le (show 0 ≤ n by omega)
    have HF : Hid (verB root m j s proof = (valR proof.reverse m j s == some root)) := by show _ = _; rw [HV.out, hd, show decide ((0 : Int) ≤ (j : Int)) = true from by simp, show decide ((j : Int) < (m : Int)) = true from by simp; omega]; rfl
    have H32 : Hid (∀ x ∈ proof, x.length = 32) := fun x hx => by
      unfold digB at hd
      exact of_decide_eq_true (List.all_eq_true.1 hd x hx)
    rw [hd] at HAll
    have d1' : decide (m ≤ j) = false := by simp; omega
    have hjm : j < m := by omega
    clear hd HV d1 h1 h0
    generalize hnp : proof.length = np at *
    have Hnp := Lib.hid hnp
    clear hnp
    refine (callsIn_wide (n := 4)).1 ?_
    refine callsIn_of_wp_marks Tryd.func21 rfl trivial ?_
    simp only [Tryd.ntmps21, List.size_toArray, List.length_cons, List.length_nil, Nat.reduceAdd, Nat.reduceSub, Array.replicate_succ, Array.replicate_zero, List.push_toArray, List.append_toArray, List.nil_append, List.cons_append]
    refine wpIn_wide.2 ?_
    go_wp2_with (go_at_call 45; refine HAll.out.mono ?_; rintro e w' ⟨rfl, rfl⟩)
    clear d0 d1'
    go_loopw [1, 2, 4, 11] (fun v1 v2 v4 v11 wr => ∃ n' i' : Nat, v1 = .int .i64 n' ∧ v2 = .int .i64 i' ∧ i' < n' ∧ n' ≤ m ∧ VerI proof m j s w.heap.size n' i' v4 v11 wr ∧ Below w.heap.size w wr) (fun v1 _ _ _ _ => (intOf v1).toNat)
    case atStart => exact ⟨m, j, rfl, rfl, hjm, Nat.le_refl _, ⟨proof, [], HL.out, OwnD.nil _ _, H32.out, fun x hx => by simp at hx, by simp, by rw [show upB [] = id from rfl]; simp⟩, Below.refl _ _⟩
    case round =>
      obtain ⟨n', i', rfl, rfl, hin, hnm, ⟨rest, way, hS, hO, hr32, hw32, hlens, hval⟩, hB⟩ := hrel
      have hzB := hB.size
      have HR32 := Lib.hid hr32
      have HW32 := Lib.hid hw32
      have HVal := Lib.hid hval
      have HO := Lib.hid hO
      rw [Hnp.out] at hlens
      clear hr32 hw32 hval hO
      by_cases hn1 : 1 < n'
      · have dn : decide ((1 : Int) < (n' : Int)) = true := by simp; omega
        rcases List.eq_nil_or_concat rest with h0 | ⟨rest0, x, h0⟩
        · subst h0
          obtain ⟨a4, c4, hv4, _, _⟩ := hS.shape
          rw [show ([] : List Bytes).length = 0 from rfl] at hv4
          subst hv4
          have HFf : Hid (verB root m j s proof = false) := by show _ = _; rw [HF.out, HVal.out]; show ((valR [] n' i' s).map (upB way) == some root) = false; simp only [valR]; rw [if_neg (by omega)]; rfl
          go_wp2_with (go_at_call 46; refine (take_none _ _ _).mono ?_; rintro e w' ⟨rfl, rfl⟩)
          refine leaves_marks (B := w.heap.size) [] wr ⟨by simp, by simp⟩ fun W9 hb' _ => ?_
          exact ⟨_, results_tmp rfl _ _ _, by rw [HFf.out]; rfl, hB.trans hb'⟩
        · rw [List.concat_eq_append] at h0
          subst h0
          obtain ⟨a4, c4, hv4, hc4, hc4'⟩ := hS.shape
          unfold maxLen at hc4'
          obtain ⟨N, hN⟩ : ∃ N, N = rest0.length := ⟨_, rfl⟩
          have HN := Lib.hid hN
          rw [List.length_append, List.length_singleton, ← hN] at hv4 hc4
          subst hv4
          obtain ⟨b4, o4, ha4, hb4, cl⟩ := hS.lastCell
          subst ha4
          rw [← hN] at cl
          have HTk : Hid (StrsAt w.heap.size wr (.slice (some ⟨b4, o4, none⟩) N c4) rest0) := by
            have := hS.take rest0.length (by simp)
            rw [List.take_left, ← hN] at this
            exact this
          have HTake := Lib.hid (take_some b4 o4 (N + 1) c4 (bs x) wr (by omega) (by omega) (by omega) (by rw [Nat.add_sub_cancel]; exact cl))
          rw [Nat.add_sub_cancel] at HTake
          have hx32 := HR32.out x (by simp)
          have hb := leftN_bd (n := n') (by omega)
          have HLf := Lib.hid (fun W => left_any (n' : Int) W (by omega) (by omega))
          rw [Int.toNat_natCast] at HLf
          have HStep : Hid (valR (rest0 ++ [x]).reverse n' i' s = if i' < leftN n' then (valR rest0.reverse (leftN n') i' s).map (nodeB · x) else (valR rest0.reverse (n' - leftN n') (i' - leftN n') s).map (nodeB x ·)) := by
            show _ = _
            rw [List.reverse_append]
            exact (show valR (x :: rest0.reverse) n' i' s = if n' ≤ 1 then none else if i' < leftN n' then (valR rest0.reverse (leftN n') i' s).map (nodeB · x) else (valR rest0.reverse (n' - leftN n') (i' - leftN n') s).map (nodeB x ·) from rfl).trans (if_neg (by omega))
          have hwl : way.length ≤ 1000000 := by rw [List.length_append] at hlens; omega
          generalize leftN n' = K at *
          clear hS cl hN
          by_cases hik : i' < K
          · have dk : decide (K ≤ i') = false := by simp; omega
            have HSt : Hid (valR proof.reverse m j s = (valR rest0.reverse K i' s).map (upB (way ++ [(x, false)]))) := by
              show _ = _
              rw [HVal.out, HStep.out, if_pos hik, Option.map_map]
              congr 1
              funext v
              exact (upB_snoc way (x, false) v).symm
            go_wp2_with (first | (go_at_call 46; refine HTake.out.mono ?_; rintro e w2 ⟨rfl, q, hw2⟩; have hb2 : Below wr.heap.size wr w2 := (by rw [hw2]; exact below_drewN0 (Below.refl _ _) q); have hz2 := hb2.size; have HO2 := Lib.hid (HO.out.below hb2 (Nat.le_refl _)); have HTk2 := Lib.hid (HTk.out.below hb2 hzB); have hB2 := hB.trans (hb2.mono hzB); clear hw2) | (go_at_call 40; refine (HLf.out _).mono ?_; rintro e w' ⟨rfl, rfl⟩) | (at_builtin; refine append_side rfl _ _ rfl w.heap.size u11 way x false rfl rfl HO2.out (by omega) (by omega) w hB2 ?_; intro v5 w3 hO3 hg3 hb3))
            have HR0 : Hid (∀ y ∈ rest0, y.length = 32) := fun y hy => HR32.out y (by simp [hy])
            have HW0 : Hid (∀ y ∈ way ++ [(x, false)], y.1.length = 32) := fun y hy => by
              rcases List.mem_append.1 hy with hy | hy
              · exact HW32.out y hy
              · rw [List.mem_singleton.1 hy]; exact hx32
            go_roundw
            case rel => exact ⟨K, i', rfl, rfl, hik, by omega, ⟨rest0, way ++ [(x, false)], HTk2.out.below (below_of_row (by omega) hg3 HO2.out) (Nat.le_refl _), hO3, HR0.out, HW0.out, by rw [Hnp.out]; simp at hlens ⊢; omega, HSt.out⟩, hb3⟩
            case measure => simp [intOf]; omega
          · have dk : decide (K ≤ i') = true := by simp; omega
            have HSt : Hid (valR proof.reverse m j s = (valR rest0.reverse (n' - K) (i' - K) s).map (upB (way ++ [(x, true)]))) := by
              show _ = _
              rw [HVal.out, HStep.out, if_neg hik, Option.map_map]
              congr 1
              funext v
              exact (upB_snoc way (x, true) v).symm
            have dw1 : IntKind.i64.wrap ((i' : Int) - (K : Int)) = (i' : Int) - (K : Int) := IntWalk.i64_in _ (by omega)
            have dw2 : IntKind.i64.wrap ((n' : Int) - (K : Int)) = (n' : Int) - (K : Int) := IntWalk.i64_in _ (by omega)
            go_wp2_with (first | (go_at_call 46; refine HTake.out.mono ?_; rintro e w2 ⟨rfl, q, hw2⟩; have hb2 : Below wr.heap.size wr w2 := (by rw [hw2]; exact below_drewN0 (Below.refl _ _) q); have hz2 := hb2.size; have HO2 := Lib.hid (HO.out.below hb2 (Nat.le_refl _)); have HTk2 := Lib.hid (HTk.out.below hb2 hzB); have hB2 := hB.trans (hb2.mono hzB); clear hw2) | (go_at_call 40; refine (HLf.out _).mono ?_; rintro e w' ⟨rfl, rfl⟩) | (at_builtin; refine append_side rfl _ _ rfl w.heap.size u11 way x true rfl rfl HO2.out (by omega) (by omega) w hB2 ?_; intro v5 w3 hO3 hg3 hb3))
            have HR0 : Hid (∀ y ∈ rest0, y.length = 32) := fun y hy => HR32.out y (by simp [hy])
            have HW0 : Hid (∀ y ∈ way ++ [(x, true)], y.1.length = 32) := fun y hy => by
              rcases List.mem_append.1 hy with hy | hy
              · exact HW32.out y hy
              · rw [List.mem_singleton.1 hy]; exact hx32
            go_roundw
            case rel => exact ⟨n' - K, i' - K, congrArg (Value.int .i64) (by omega), congrArg (Value.int .i64) (by omega), by omega, by omega, ⟨rest0, way ++ [(x, true)], HTk2.out.below (below_of_row (by omega) hg3 HO2.out) (Nat.le_refl _), hO3, HR0.out, HW0.out, by rw [Hnp.out]; simp at hlens ⊢; omega, HSt.out⟩, hb3⟩
            case measure => simp [intOf]; omega
      · have dn : decide ((1 : Int) < (n' : Int)) = false := by simp; omega
        have HRes : Hid (verB root m j s proof = (rest.isEmpty && (upB way (leafB s) == root))) := by
          show _ = _
          rw [HF.out, HVal.out]
          cases hrr : rest.reverse with
          | nil =>
            obtain rfl : rest = [] := by simpa using hrr
            simp only [valR]
            rw [if_pos (by omega)]
            rfl
          | cons y t =>
            have hne : rest.isEmpty = false := by cases rest with | nil => simp at hrr | cons a b => rfl
            simp only [valR]
            rw [if_pos (by omega), hne]
            rfl
        obtain ⟨a4, c4, hv4, hc4, hc4'⟩ := hS.shape
        have HLf := Lib.hid (leaf_any (bs s) wr (by rw [bs_size]; exact hs) (HT.out.below hB (Nat.le_refl _)))
        rw [bs_list] at HLf
        clear HVal HF
        obtain ⟨a3, g3, cp3, hv11, ha3, hg3, hc3⟩ := HO.out.shape4 (by have := (HT.out.below hB (Nat.le_refl _)).lt; omega)
        obtain ⟨M, hM⟩ : ∃ M, M = way.length := ⟨_, rfl⟩
        have HM := Lib.hid hM
        rw [← hM] at hv11 ha3 hc3
        have hMb : M ≤ 1000000 := by omega
        have HC3 := Lib.hid hc3
        have HA3 := Lib.hid ha3
        subst hv11
        subst hv4
        generalize hrl : rest.length = RL at *
        have HRl := Lib.hid hrl
        clear hM hc3 ha3 hrl hS
        go_wp2_with (first | (go_at_call 29; refine HLf.out.mono ?_; rintro e w2 ⟨rfl, hb2⟩) | (go_at_call 47; refine (backS_any _ ⟨_, _, _, rfl⟩ _).mono ?_; rintro e w' ⟨rfl, rfl⟩))
        have hz2 := hb2.size
        have hr0 : Below w2.heap.size w2 ((w2.alloc (.cells #[.string (bs (leafB s))] 9)).alloc (.cells #[.slice a3 M cp3] 54)) := ((Below.refl _ _).alloc (Nat.le_refl _) _).alloc (by simp) _
        have hbo : Boxed ((w2.alloc (.cells #[.string (bs (leafB s))] 9)).alloc (.cells #[.slice a3 M cp3] 54)) w2.heap.size 9 (.string (bs (leafB s))) := (Boxed.new w2 9 (.string (bs (leafB s)))).alloc _
        have hbs : Boxed ((w2.alloc (.cells #[.string (bs (leafB s))] 9)).alloc (.cells #[.slice a3 M cp3] 54)) (w2.heap.size + 1) 54 (.slice a3 M cp3) := by
          have := Boxed.new (w2.alloc (.cells #[.string (bs (leafB s))] 9)) 54 (.slice a3 M cp3)
          rwa [World.size_alloc] at this
        have hzr : ((w2.alloc (.cells #[.string (bs (leafB s))] 9)).alloc (.cells #[.slice a3 M cp3] 54)).heap.size = w2.heap.size + 2 := by simp
        obtain ⟨W2, hW2⟩ : ∃ W2, W2 = (w2.alloc (.cells #[.string (bs (leafB s))] 9)).alloc (.cells #[.slice a3 M cp3] 54) := ⟨_, rfl⟩
        rw [← hW2] at hr0 hbo hbs hzr ⊢
        clear hW2
        have hcells : ∀ i, i < M → W2.cell? ⟨g3, i * 2, none⟩ = some (.string (gS way i)) ∧ W2.cell? ⟨g3, i * 2 + 1, none⟩ = some (.bool (gF way i)) := fun i hi =>
          ⟨((hb2.trans (hr0.mono hz2)).cell (p := ⟨g3, i * 2, none⟩) hg3).trans (HC3.out i hi).1, ((hb2.trans (hr0.mono hz2)).cell (p := ⟨g3, i * 2 + 1, none⟩) hg3).trans (HC3.out i hi).2⟩
        have HTr := Lib.hid (((HT.out.below hB (Nat.le_refl _)).below hb2 (Nat.le_refl _)).below hr0 (Nat.le_refl _))
        have hgl : 0 ≠ w2.heap.size := fun e => by have := (HT.out.below hB (Nat.le_refl _)).lt; omega
        have HUp := Lib.hid (up_back way (leafB s) M HM.out.symm)
        refine (wpIn_wide (n := 4)).1 ?_
        refine wpIn_rangeFunc_ownH rfl (by omega) (gf := 63) (lb := #[.pointer (some ⟨w2.heap.size + 1, 0, none⟩)]) rfl trivial (enters_of Tryd.func63 (by kernel_rfl) rfl)
          (backS1_seq _ (w2.heap.size + 1) g3 M cp3 a3 (gS way) (gF way) (KpBut W2.heap.size w2.heap.size) W2 hbs (by omega) HA3.out hcells (fun A B h => h _ (by omega) (by omega)) (fun A B h => h _ (by omega) (by omega))) kpBut_t (kpBut_b (Nat.le_refl _)) (Below.refl _ _) (fun _ => rfl)
          (UpI way (leafB s) M w2.heap.size W2) (fun _ _ _ => False) (upI_own _ _ _ _ _ _ (Nat.le_refl _) (by omega)) (fun c => fun _ _ _ _ h => h.elim)
          ⟨hbo, World.grownBy.refl _ _⟩ (SideAx way M W2.heap.size ?fr) (sideAx_own _ _ _ _ _) ?assign ?body ?done ?stop
        case assign =>
          rintro l' pre x W' K ⟨hbx, hG⟩ hK
          have hzG := hG.size
          gi_wp2
          obtain ⟨Bx, hBx⟩ : ∃ Bx, Bx = W'.heap.size := ⟨_, rfl⟩
          have hnew : (W'.alloc (.cells #[.string (gS way x.1), .bool (gF way x.1)] 58)).heap[Bx]? = some (.cells #[.string (gS way x.1), .bool (gF way x.1)] 58 (0, 0)) := by rw [hBx]; exact heap_alloc_new W' _
          have hle : W2.heap.size ≤ Bx := by omega
          rw [← hBx]
          have hK2 := hK _ (W'.alloc (.cells #[.string (gS way x.1), .bool (gF way x.1)] 58)) ((KeepsOthers.alloc _ _).from _) (fun k hk _ => Below.heap_alloc _ _ _ (by omega)) ⟨hbx.alloc _, hG.trans (World.grownBy_alloc _ _ _)⟩ ⟨Bx, hle, hnew, rfl⟩
          exact hK2
        case stop =>
          rintro D c pre W' _ _ h _
          exact h.elim
        case body =>
          rintro l' pre ⟨x, hx⟩ a' W' hl' ⟨r, hr⟩ ⟨hbx, hG⟩ ⟨Bx, hle, hblk, ha'⟩ hlt
          subst ha'
          dsimp only at hblk ⊢
          have hzG := hG.size
          have hxl : (way.getD x ([], false)).1.length = 32 := HW32.out _ (getD_mem' _ _ _ (by rw [← HM.out]; exact hx))
          obtain ⟨o, ho⟩ : ∃ o, o = pre.foldl (fun o i => joinB (way.getD i.1 ([], false)) o) (leafB s) := ⟨_, rfl⟩
          have ho32 : o.length = 32 := by
            rw [ho]
            rcases List.eq_nil_or_concat pre with h0 | ⟨p0, y, h0⟩
            · rw [h0]; exact leafB_length _
            · rw [h0, List.concat_eq_append, List.foldl_append]; exact joinB_length _ _
          rw [← ho] at hbx
          have HJn : Hid (Calls Tryd.prog 48 #[.agg #[.string (gS way x), .bool (gF way x)], .string (bs o)] W' fun e w' => e = .returned (.string (bs (joinB (way.getD x ([], false)) o))) ∧ Below W'.heap.size W' w') :=
            join_any (way.getD x ([], false)).1 o (way.getD x ([], false)).2 W' (by omega) (by omega) (HTr.out.grown hG hgl)
          have HFo : Hid ((pre ++ [(⟨x, hx⟩ : Fin M)]).foldl (fun o (i : Fin M) => joinB (way.getD i.1 ([], false)) o) (leafB s) = joinB (way.getD x ([], false)) o) := by show _ = _; rw [List.foldl_append, ← ho]; rfl
          have c0 : W'.cell? ⟨Bx, 0, none⟩ = some (.string (gS way x)) := cell_of_row _ Bx 0 _ _ _ hblk
          have c1 : W'.cell? ⟨Bx, 1, none⟩ = some (.bool (gF way x)) := cell_of_row _ Bx 1 _ _ _ hblk
          have cb := hbx.cell
          have HBx := Lib.hid hbx
          have HG := Lib.hid hG
          clear hbx hG hblk ho hxl ho32
          generalize gS way x = gs at *
          generalize gF way x = gf at *
          gi_wp2_with (refine ⟨trivial, ?_⟩; gi_at_call 48; refine (CallsIn.inRound l' (callsIn_wide.2 HJn.out)).mono ?_; rintro e w3 ⟨rfl, hb3⟩; have hb3x : Boxed w3 w2.heap.size 9 (.string (bs o)) := (hb3.block _ HBx.out.lt).trans HBx.out; have cb3 := hb3x.cell; have fb3 := hb3x.frozen)
          have hg3' : W'.grownBy (w3.setCell ⟨w2.heap.size, 0, none⟩ (.string (bs (joinB (way.getD x ([], false)) o)))) (some w2.heap.size) := grownBy_set (grown_of_below hb3 _)
          refine ⟨KeepsFrom.of_grownBy hg3' (fun j hj => by cases hj; omega), kpBut_grown hg3' hzG, ?_, HG.out.trans hg3'⟩
          rw [HFo.out]
          exact hb3x.set _
        case done =>
          rintro D xs W' hD rfl ⟨hbx, hG⟩ hK
          rw [HUp.out M (Nat.le_refl _), Nat.sub_self, List.drop_zero] at hbx
          have cb := hbx.cell
          have HK := Lib.hid hK
          have hzG := hG.size
          have HG := Lib.hid hG
          have hall : Below w.heap.size w W' := (((hB.trans (hb2.mono hzB)).trans (hr0.mono (by omega))).grown HG.out (by omega) (fun k hk => by cases hk; omega))
          have HAll := Lib.hid hall
          clear hK hG hbx hall
          rw [show rest.isEmpty = decide (RL = 0) from by rw [← HRl.out]; cases rest <;> simp] at HRes
          generalize hup : upB way (leafB s) = U at *
          clear hup
          by_cases hR0 : RL = 0
          · have dR : (((RL : Nat) : Int) == 0) = true := by simp [hR0]
            rw [show decide (RL = 0) = true from by simp [hR0], Bool.true_and] at HRes
            clear hR0
            have HBe := Lib.hid (show ((bs U).toList == (bs root).toList) = (U == root) by rw [bs_toList, bs_toList])
            go_wp2
            have hKD := HK.out
            refine leaves_marks (B := w.heap.size) [D] W' ⟨by simp, fun D' hD' => ?_⟩ fun W9 hb' _ => ?_
            · rw [List.mem_singleton.1 hD']
              exact ⟨by omega, hKD⟩
            · exact ⟨_, results_tmp rfl _ _ _, by rw [HRes.out, ← HBe.out]; rfl, HAll.out.trans hb'⟩
          · have dR : (((RL : Nat) : Int) == 0) = false := by simp; omega
            rw [show decide (RL = 0) = false from by simp [hR0], Bool.false_and] at HRes
            clear hR0
            go_wp2
            have hKD := HK.out
            refine leaves_marks (B := w.heap.size) [D] W' ⟨by simp, fun D' hD' => ?_⟩ fun W9 hb' _ => ?_
            · rw [List.mem_singleton.1 hD']
              exact ⟨by omega, hKD⟩
            · exact ⟨_, results_tmp rfl _ _ _, by rw [HRes.out]; rfl, HAll.out.trans hb'⟩
end Go.Proofs.YteemhemnkdgehaaDoor
