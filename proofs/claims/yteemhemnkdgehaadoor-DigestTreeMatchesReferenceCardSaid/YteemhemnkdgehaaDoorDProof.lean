/- digest.left and digest.Proof. -/
import Derived.Test.YteemhemnkdgehaaDoorDRoot
import Derived.Test.YteemhemnkdgehaaDoorDTree2
import Derived.Lib.ItoaNum
namespace Go.Proofs.YteemhemnkdgehaaDoor
open Go.RowKit Go.Shelf

theorem StrsAt.take {B : Nat} {w : World} {a : Option Addr} {n c : Nat} {l : List Bytes} (h : StrsAt B w (.slice a n c) l) (m : Nat) (hm : m ≤ l.length) : StrsAt B w (.slice a m c) (l.take m) := by
  obtain ⟨a', c', he, h1, h2, h3⟩ := h
  cases he
  have hl : (l.take m).length = m := by rw [List.length_take]; omega
  refine ⟨a, c, by rw [hl], by omega, h2, fun hp => ?_⟩
  rw [hl] at hp
  obtain ⟨b, off, ha, hb, hc⟩ := h3 (by omega)
  refine ⟨b, off, ha, hb, fun i hi => ?_⟩
  rw [hl] at hi
  rw [hc i (by omega), List.getD_eq_getElem?_getD, List.getD_eq_getElem?_getD, List.getElem?_take, if_pos hi]
theorem StrsAt.drop {B : Nat} {w : World} {b off n c : Nat} {l : List Bytes} (h : StrsAt B w (.slice (some ⟨b, off, none⟩) n c) l) (k : Nat) (hk : k ≤ l.length) : StrsAt B w (.slice (some ⟨b, off + k, none⟩) (n - k) (c - k)) (l.drop k) := by
  obtain ⟨a', c', he, h1, h2, h3⟩ := h
  cases he
  have hl : (l.drop k).length = l.length - k := List.length_drop ..
  refine ⟨_, _, by rw [hl], by omega, by omega, fun hp => ?_⟩
  rw [hl] at hp
  obtain ⟨b', off', ha, hb, hc⟩ := h3 (by omega)
  cases ha
  refine ⟨b, off + k, rfl, hb, fun i hi => ?_⟩
  rw [hl] at hi
  rw [show off + k + i = off + (k + i) from by omega, hc (k + i) (by omega), List.getD_eq_getElem?_getD, List.getD_eq_getElem?_getD, List.getElem?_drop]
theorem StrsAt.addr {B : Nat} {w : World} {a : Option Addr} {n c : Nat} {l : List Bytes} (h : StrsAt B w (.slice a n c) l) (hl : 0 < l.length) : ∃ b off, a = some ⟨b, off, none⟩ := by
  obtain ⟨b, off, ha, _⟩ := h.at 0 hl
  exact ⟨b, off, ha⟩
theorem StrsAt.len {B : Nat} {w : World} {a : Option Addr} {n c : Nat} {l : List Bytes} (h : StrsAt B w (.slice a n c) l) : n = l.length ∧ n ≤ c ∧ c ≤ maxLen := by
  obtain ⟨a', c', he, h1, h2, h3⟩ := h
  cases he
  exact ⟨rfl, h1, h2⟩
/-- All cells of a row are written from o on. -/
def setL (cur : Array Value) : Nat → List Value → Array Value
  | _, [] => cur
  | o, v :: r => setL (cur.setIfInBounds o v) (o + 1) r
theorem setL_size : ∀ (vs : List Value) (o : Nat) (cur : Array Value), (setL cur o vs).size = cur.size
  | [], _, _ => rfl
  | v :: r, o, cur => by unfold setL; rw [setL_size r, Array.size_setIfInBounds]
theorem setL_get : ∀ (vs : List Value) (o : Nat) (cur : Array Value) (i : Nat), o + vs.length ≤ cur.size → (setL cur o vs)[i]? = if o ≤ i ∧ i < o + vs.length then vs[i - o]? else cur[i]?
  | [], o, cur, i, _ => by unfold setL; rw [if_neg (by simp only [List.length_nil]; omega)]
  | v :: r, o, cur, i, h => by
    unfold setL
    rw [setL_get r (o + 1) _ i (by rw [Array.size_setIfInBounds]; simp at h; omega), Array.getElem?_setIfInBounds]
    simp only [List.length_cons] at h ⊢
    by_cases e : o = i
    · subst e
      rw [if_neg (by omega), if_pos rfl, if_pos (by omega), if_pos (by omega), Nat.sub_self]
      rfl
    · by_cases h2 : o + 1 ≤ i ∧ i < o + 1 + r.length
      · rw [if_pos h2, if_pos (by omega), show i - o = (i - (o + 1)) + 1 from by omega, List.getElem?_cons_succ]
      · rw [if_neg h2, if_neg e, if_neg (by omega)]
theorem setCells_heap (g : Nat) (t : TypeId) : ∀ (vs : List Value) (o : Nat) (cur : Array Value) (w : World), w.heap[g]? = some (.cells cur t (0, 0)) → (w.setCells g o vs).heap[g]? = some (.cells (setL cur o vs) t (0, 0))
  | [], _, _, _, h => h
  | v :: r, o, cur, w, h => setCells_heap g t r (o + 1) _ _ (heap_setCell_same w g o cur t v h)
/-- A row of the call's own, turned round. -/
theorem OwnS.reversed {base : Nat} {w : World} {g cap : Nat} {l : List Bytes} (h : OwnS base w (.slice (some ⟨g, 0, none⟩) l.length cap) l) (q : Nat) : OwnS base ((w.drewN q).setCells g 0 (l.reverse.map (fun b => Value.string (bs b)))) (.slice (some ⟨g, 0, none⟩) l.reverse.length cap) l.reverse := by
  rcases h.2 with ⟨h0, _⟩ | ⟨g', cap', cur, heq, hgb, hgg, h1, h2, h3, h4⟩
  · cases h0
  · cases heq
    have hh := setCells_heap g 9 (l.reverse.map (fun b => Value.string (bs b))) 0 cur (w.drewN q) hgg
    refine ⟨by simp, .inr ⟨g, cap, _, rfl, hgb, hh, by simpa using h1, h2, by rw [setL_size]; exact h3, ?_⟩⟩
    apply List.ext_getElem?
    intro i
    rw [List.getElem?_take, Array.getElem?_toList, setL_get _ _ _ _ (by simp; omega)]
    simp only [List.length_map, List.length_reverse, Nat.mul_one, Nat.zero_add, Nat.sub_zero]
    by_cases hi : i < l.length
    · rw [if_pos hi, if_pos (by omega)]
    · rw [if_neg hi, List.getElem?_eq_none (by simp; omega)]
theorem bitLen_log (x : Nat) (h : 0 < x) (h2 : x < 2 ^ 64) : (Lib.bitLen x : Int) = (Nat.log2 x : Int) + 1 := by
  obtain ⟨b1, b2, b3⟩ := Lib.bitLenAux_bounds 64 x h2 (by omega)
  have e : Nat.log2 x = Lib.bitLen x - 1 := (Nat.log2_eq_iff (by omega)).2 ⟨b2, by
    have : Lib.bitLenAux 64 x - 1 + 1 = Lib.bitLenAux 64 x := by omega
    show x < 2 ^ (Lib.bitLenAux 64 x - 1 + 1)
    rw [this]; exact b3⟩
  have b1' : 1 ≤ Lib.bitLen x := b1
  omega
theorem shl_one63 (n : Nat) (hn : n < 63) : wrap64 (2 ^ n) = ((2 ^ n : Nat) : Int) := by
  have h1 : 2 ^ n ≤ 2 ^ 62 := Nat.pow_le_pow_right (by decide) (by omega)
  rw [show (2 : Int) ^ n = ((2 ^ n : Nat) : Int) from by push_cast; rfl]
  unfold wrap64
  generalize 2 ^ n = p at *
  omega
theorem left_any (n : Int) (w : World) (h2 : 2 ≤ n) (hn : n ≤ 9223372036854775807) :
    Calls Tryd.prog 40 #[.int .i64 n] w fun e w' => e = .returned (.int .i64 (leftN n.toNat : Nat)) ∧ w = w' := by
  obtain ⟨m, rfl⟩ := Int.eq_ofNat_of_zero_le (show 0 ≤ n by omega)
  rw [Int.toNat_natCast]
  have HB := Lib.hid (fun W => Tryd.bits_Len ((m : Int) - 1) W (by omega) (by omega))
  rw [show ((m : Int) - 1).toNat = m - 1 from by omega] at HB
  have hl := bitLen_log (m - 1) (by omega) (by omega)
  have hsh := shl_one63 (Nat.log2 (m - 1))
  have hlt : Nat.log2 (m - 1) < 63 := (Nat.log2_lt (by omega)).2 (by omega)
  have HD : Hid (leftN m = 2 ^ Nat.log2 (m - 1)) := rfl
  replace hsh := hsh hlt
  rw [hl] at HB
  clear hl
  generalize Nat.log2 (m - 1) = t at *
  go_enter Tryd.func40, Tryd.ntmps40
  go_wp2_with (go_at_call 59; refine (HB.out _).mono ?_; rintro e w' ⟨rfl, rfl⟩)
  go_ret
  exact ⟨by rw [HD.out, ← hsh]; rfl, rfl⟩
def lenOf : Value → Nat | .slice _ n _ => n | _ => 0
/-- What Proof returns. -/
def proofE (l : List Bytes) (i : Int) : List Bytes × Int := if 0 ≤ i ∧ i < (l.length : Int) then (proofL l i.toNat, 0) else ([], 2)
theorem ownS_free {base : Nat} {w : World} {g n cap : Nat} {l : List Bytes} (h : OwnS base w (.slice (some ⟨g, 0, none⟩) n cap) l) (i : Nat) : w.frozen? ⟨g, i, none⟩ = false := by
  rcases h.2 with ⟨h0, _⟩ | ⟨g', cap', cur, heq, hgb, hgg, _⟩
  · cases h0
  · cases heq
    exact frozen_of_row _ _ i _ _ hgg
theorem strsOf_gB (out : List Bytes) : (Lib.strsOf (gB out) out.length) = out := by
  unfold Lib.strsOf
  apply List.ext_getElem?
  intro i
  rw [List.getElem?_map]
  by_cases hi : i < out.length
  · rw [List.getElem?_range hi, List.getElem?_eq_getElem hi]
    show some (out.getD i []) = _
    rw [List.getD_eq_getElem?_getD, List.getElem?_eq_getElem hi]
    rfl
  · rw [List.getElem?_eq_none (by simp; omega), List.getElem?_eq_none (by omega)]
    rfl
theorem below_of_append {base : Nat} {w1 w' : World} {v : Value} {l : List Bytes} {o : Obj} (hbase : base ≤ w1.heap.size) (hg : (w1.alloc o).grownBy w' v.ownBlock) (h : OwnS base w1 v l) : Below base w1 w' :=
  ⟨hg.os, hg.tape, hg.output, Nat.le_trans (by simp) hg.size, fun k hk => by
    have hz : w1.heap.size < (w1.alloc o).heap.size := by simp
    by_cases hlt : k < w1.heap.size
    · rw [hg.block k (by omega) (fun e => by have := (World.ownsRow.lt h k e.symm).1; omega)]
      exact Below.heap_alloc _ _ _ hlt
    · exact absurd hk (by omega)⟩
set_option maxRecDepth 100000 in
set_option maxHeartbeats 1000000 in
theorem proof_any (v : Value) (l : List Bytes) (i : Int) (w : World) (hL : StrsAt w.heap.size w v l) (hlen : l.length ≤ 1000000) (hel : ∀ x ∈ l, x.length ≤ 274877906944) (hT : Rounds w) :
    Calls Tryd.prog 14 #[v, .int .i64 i] w fun e w' => ∃ vp, e = .returned (.tuple #[vp, .int .i64 (proofE l i).2]) ∧ OwnS w.heap.size w' vp (proofE l i).1 ∧ Below w.heap.size w w' := by
  obtain ⟨av, cv, rfl, hcv1, hcv2⟩ := hL.shape
  unfold maxLen at hcv2
  have HE : Hid (proofE l i = if 0 ≤ i ∧ i < (l.length : Int) then (proofL l i.toNat, 0) else ([], 2)) := rfl
  have HL := Lib.hid hL
  have HEl := Lib.hid hel
  have HT := Lib.hid hT
  clear hL hel hT
  generalize hn : l.length = n at *
  have Hn := Lib.hid hn
  clear hn
  by_cases h0 : 0 ≤ i
  · by_cases h1 : i < (n : Int)
    · rw [if_pos ⟨h0, h1⟩] at HE
      obtain ⟨j, rfl⟩ := Int.eq_ofNat_of_zero_le h0
      rw [Int.toNat_natCast] at HE
      have d0 : decide ((j : Int) < 0) = false := by simp
      have d1 : decide (n ≤ j) = false := by simp; omega
      go_enter Tryd.func14, Tryd.ntmps14
      go_wp2
      go_step3
      go_wp2
      go_step3
      go_wp2
      clear d0 d1 h0
      have hjn : j < n := by omega
      clear h1
      go_loopw [0, 1, 6] (fun v0 v1 v6 wr => ∃ (l' : List Bytes) (i' : Nat) (out : List Bytes), v1 = .int .i64 i' ∧ StrsAt w.heap.size wr v0 l' ∧ i' < l'.length ∧ l'.length ≤ n ∧ (∀ x ∈ l', x ∈ l) ∧ OwnS w.heap.size wr v6 out ∧ out.length + l'.length ≤ n ∧ Hid (proofL l j = proofL l' i' ++ out.reverse) ∧ Below w.heap.size w wr) (fun v0 _ _ _ => lenOf v0)
      case atStart => exact ⟨l, j, [], rfl, HL.out, by rw [Hn.out]; exact hjn, by rw [Hn.out]; exact Nat.le_refl _, fun x hx => hx, OwnS.nil _ _, by rw [Hn.out]; simp, by show _ = _; simp, Below.refl _ _⟩
      case round =>
        obtain ⟨l', i', out, rfl, hS, hi', hl'n, hsub, hO, hol, HPr, hB⟩ := hrel
        obtain ⟨a0, c0, hv0, hc1, hc2⟩ := hS.shape
        unfold maxLen at hc2
        have hzB := hB.size
        have HSub := Lib.hid hsub
        have HO := Lib.hid hO
        clear hsub hO
        generalize hN : l'.length = N at *
        have HN := Lib.hid hN
        clear hN
        subst hv0
        have HS := Lib.hid hS
        by_cases hN1 : N = 1
        · have dN : (((N : Nat) : Int) == 1) = true := by simp [hN1]
          have HP1 : Hid (proofL l j = out.reverse) := by show _ = _; rw [HPr.out, proofL_one (by rw [HN.out]; omega)]; rfl
          clear hN1
          rcases HO.out.shape with ⟨h6, h7⟩ | ⟨g6, cp6, h6, h7, h8, _, _⟩
          · subst h6
            have HRv := Lib.hid (Tryd.slices_Reverse_string_empty none 0 wr)
            go_wp2_with (go_at_call 41; refine HRv.out.mono ?_; rintro e w2 ⟨rfl, hw2⟩; subst hw2)
            rw [Exit.noGoto_ret]
            go_ret2
            exact ⟨_, by rw [HE.out]; rfl, by rw [HE.out]; show OwnS _ _ _ (proofL l j); rw [HP1.out, h7]; exact OwnS.nil _ _, hB⟩
          · have HRv := Lib.hid (Tryd.slices_Reverse_string_cells g6 0 out.length cp6 (gB out) wr (by omega) (fun i hi => by rw [Nat.zero_add]; exact (show OwnS w.heap.size wr (.slice (some ⟨g6, 0, none⟩) out.length cp6) out from h6 ▸ HO.out).cell i hi) (fun i hi => by rw [Nat.zero_add]; exact ownS_free (show OwnS w.heap.size wr (.slice (some ⟨g6, 0, none⟩) out.length cp6) out from h6 ▸ HO.out) i))
            have HRw := Lib.hid (fun q => (show OwnS w.heap.size wr (.slice (some ⟨g6, 0, none⟩) out.length cp6) out from h6 ▸ HO.out).reversed q)
            rw [strsOf_gB] at HRv
            generalize hol2 : out.length = ol at *
            have HOl := Lib.hid hol2
            clear hol2
            subst h6
            go_wp2_with (go_at_call 41; refine HRv.out.mono ?_; rintro e w2 ⟨rfl, q, hw2⟩; have Hw2 := Lib.hid hw2; clear hw2)
            rw [Exit.noGoto_ret]
            go_ret2
            exact ⟨_, by rw [HE.out]; rfl, by rw [HE.out]; show OwnS _ _ _ (proofL l j); rw [HP1.out, Hw2.out]; have := HRw.out q; rw [List.length_reverse, HOl.out] at this; exact this, by rw [Hw2.out]; exact below_setCells _ _ (below_drewN0 hB q) h7⟩
        · have dN : (((N : Nat) : Int) == 1) = false := by simp; omega
          obtain ⟨b0, off, ha0⟩ := hS.addr (by rw [HN.out]; omega)
          subst ha0
          have hb := leftN_bd (n := N) (by omega)
          have hLf := fun W => left_any (N : Int) W (by omega) (by omega)
          have HLf := Lib.hid hLf
          rw [Int.toNat_natCast] at HLf
          have HLo := Lib.hid (fun (h : i' < leftN l'.length) => proofL_lo (l := l') (i := i') (by rw [HN.out]; omega) h)
          have HHi := Lib.hid (fun (h : ¬ i' < leftN l'.length) => proofL_hi (l := l') (i := i') (by rw [HN.out]; omega) h)
          rw [HN.out] at HLo HHi
          generalize leftN N = K at *
          clear hLf hS
          have HTk := Lib.hid (HS.out.take K (by rw [HN.out]; omega))
          have HDr := Lib.hid (HS.out.drop K (by rw [HN.out]; omega))
          have e1 : (0 : Int) ≤ (K : Int) := by omega
          have e2 : (K : Int) ≤ (N : Int) := by omega
          have e3 : (K : Int) ≤ (c0 : Int) := by omega
          have e4 : (N : Int) ≤ (c0 : Int) := by omega
          by_cases hik : i' < K
          · have dk : decide (K ≤ i') = false := by simp; omega
            go_wp2_with (go_at_call 40; refine (HLf.out _).mono ?_; rintro e w' ⟨rfl, rfl⟩)
            go_quiet (fail)
            go_wp2_with fail
            refine (root_any _ (l'.drop K) _ (show StrsAt (wr.drewN _).heap.size (wr.drewN _) _ _ from HDr.out.mono hzB) (by rw [List.length_drop, HN.out]; omega) (fun x hx => HEl.out x (HSub.out x (List.mem_of_mem_drop hx))) (HT.out.below (below_drewN0 hB _) (Nat.le_refl _))).mono ?_
            rintro e w2 ⟨rfl, hb2⟩
            have hb2' : Below wr.heap.size wr w2 := (below_drewN0 (Below.refl _ _) _).trans hb2
            have hz2 := hb2'.size
            have HB2 : Hid (Below w.heap.size w w2) := hB.trans (hb2'.mono hzB)
            have HO2 := Lib.hid (HO.out.below hb2' (Nat.le_refl _))
            have HTk2 := Lib.hid (HTk.out.below hb2' hzB)
            clear hb2 HO HTk
            go_wp2_with (at_builtin; refine append_S rfl _ _ rfl w.heap.size u6 out (rootL (l'.drop K)) rfl rfl HO2.out (by omega) (by omega) w HB2.out ?_; intro v5 w3 hO3 hg3 hb3)
            go_roundw
            case rel => exact ⟨l'.take K, i', out ++ [rootL (l'.drop K)], rfl, HTk2.out.below (below_of_append (by omega) hg3 HO2.out) (Nat.le_refl _), by rw [List.length_take, HN.out]; omega, by rw [List.length_take, HN.out]; omega, fun x hx => HSub.out x (List.mem_of_mem_take hx), hO3, by rw [List.length_append, List.length_singleton, List.length_take, HN.out]; omega, by show _ = _; rw [HPr.out, HLo.out hik]; simp, hb3⟩
            case measure => simp [lenOf]; omega
          · have dk : decide (K ≤ i') = true := by simp; omega
            have dw : IntKind.i64.wrap ((i' : Int) - (K : Int)) = (i' : Int) - (K : Int) := IntWalk.i64_in _ (by omega)
            go_wp2_with (go_at_call 40; refine (HLf.out _).mono ?_; rintro e w' ⟨rfl, rfl⟩)
            go_quiet (fail)
            go_wp2_with fail
            refine (root_any _ (l'.take K) _ (show StrsAt (wr.drewN _).heap.size (wr.drewN _) _ _ from HTk.out.mono hzB) (by rw [List.length_take, HN.out]; omega) (fun x hx => HEl.out x (HSub.out x (List.mem_of_mem_take hx))) (HT.out.below (below_drewN0 hB _) (Nat.le_refl _))).mono ?_
            rintro e w2 ⟨rfl, hb2⟩
            have hb2' : Below wr.heap.size wr w2 := (below_drewN0 (Below.refl _ _) _).trans hb2
            have hz2 := hb2'.size
            have HB2 : Hid (Below w.heap.size w w2) := hB.trans (hb2'.mono hzB)
            have HO2 := Lib.hid (HO.out.below hb2' (Nat.le_refl _))
            have HDr2 := Lib.hid (HDr.out.below hb2' hzB)
            clear hb2 HO HDr
            go_wp2_with (at_builtin; refine append_S rfl _ _ rfl w.heap.size u6 out (rootL (l'.take K)) rfl rfl HO2.out (by omega) (by omega) w HB2.out ?_; intro v5 w3 hO3 hg3 hb3)
            go_roundw
            case rel => exact ⟨l'.drop K, i' - K, out ++ [rootL (l'.take K)], congrArg (Value.int .i64) (by omega), HDr2.out.below (below_of_append (by omega) hg3 HO2.out) (Nat.le_refl _), by rw [List.length_drop, HN.out]; omega, by rw [List.length_drop, HN.out]; omega, fun x hx => HSub.out x (List.mem_of_mem_drop hx), hO3, by rw [List.length_append, List.length_singleton, List.length_drop, HN.out]; omega, by show _ = _; rw [HPr.out, HHi.out hik]; simp, hb3⟩
            case measure => simp [lenOf]; omega
    · rw [if_neg (fun h => h1 h.2)] at HE
      have d0 : decide (i < 0) = false := by simp; omega
      have d1 : decide ((n : Int) ≤ i) = true := by simp; omega
      go_enter Tryd.func14, Tryd.ntmps14
      go_wp2
      go_step3
      go_wp2
      rw [Exit.noGoto_ret]
      go_ret2
      exact ⟨_, by rw [HE.out]; rfl, by rw [HE.out]; exact OwnS.nil _ _, Below.refl _ _⟩
  · rw [if_neg (fun h => h0 h.1)] at HE
    have d0 : decide (i < 0) = true := by simp; omega
    go_enter Tryd.func14, Tryd.ntmps14
    go_wp2
    go_step3
    go_wp2
    rw [Exit.noGoto_ret]
    go_ret2
    exact ⟨_, by rw [HE.out]; rfl, by rw [HE.out]; exact OwnS.nil _ _, Below.refl _ _⟩
end Go.Proofs.YteemhemnkdgehaaDoor
