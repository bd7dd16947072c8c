/- few of the statements on logbook; the reference's Out. -/
import Derived.Test.YthfenbdlolbikaaGreatDoorDColl
import Derived.Test.YthfenbdlolbikaaGreatDoorGCom
import Derived.Test.YthfenbdlolbikaaGreatDoorDStepS
set_option linter.unusedVariables false
set_option linter.unusedSimpArgs false
namespace Go.Proofs.YthfenbdlolbikaaGreatDoor
open Go.RowKit Go.Shelf

/-- What few returns. -/
def fewL (l : List Bytes) (n : Nat) : List Bytes := (l.take n).map (·.take 40)
theorem fewL_succ (l : List Bytes) (k : Nat) (h : k < l.length) : fewL l (k + 1) = fewL l k ++ [(l.getD k []).take 40] := by
  unfold fewL
  rw [take_getD l [] k h, List.map_append, List.map_singleton]
theorem fewL_all (l : List Bytes) (n : Nat) (h : l.length ≤ n) : fewL l n = fewL l l.length := by
  unfold fewL
  rw [List.take_of_length_le h, List.take_length]
theorem fewL_len (l : List Bytes) (n : Nat) : (fewL l n).length = min n l.length := by simp [fewL]
theorem fewL_el (l : List Bytes) (n : Nat) : ∀ x ∈ fewL l n, x.length ≤ 40 := by
  intro x hx
  unfold fewL at hx
  obtain ⟨y, _, rfl⟩ := List.mem_map.1 hx
  rw [List.length_take]
  omega
set_option maxRecDepth 100000 in
set_option maxHeartbeats 1000000 in
theorem few_any (v : Value) (l : List Bytes) (n : Nat) (w : World) (hL : StrsAt w.heap.size w v l) (hn : n ≤ 100000) :
    Calls Tryz.prog 6 #[v, .int .i64 n] w fun e w' => ∃ rv, e = .returned rv ∧ OwnS w.heap.size w' rv (fewL l n) ∧ Below w.heap.size w w' := by
  obtain ⟨a, c, rfl, hlc, hcm⟩ := hL.shape
  unfold maxLen at hcm
  have HL := Lib.hid hL
  clear hL
  generalize hl : l.length = m at *
  have Hl := Lib.hid hl
  clear hl
  go_enter Tryz.func6, Tryz.ntmps6
  go_wp2
  go_loopw [5, 6] (fun v3 i wr => ∃ k : Nat, k ≤ n ∧ k ≤ m ∧ i = .int .i64 k ∧ Below w.heap.size w wr ∧ OwnS w.heap.size wr v3 (fewL l k)) (fun _ i _ => n - (intOf i).toNat)
  case atStart => exact ⟨0, Nat.zero_le _, Nat.zero_le _, rfl, Below.refl _ _, OwnS.nil _ _⟩
  case round =>
    obtain ⟨k, hk, hkm, rfl, hB, hO⟩ := hrel
    have hzB := hB.size
    have HO := Lib.hid hO
    clear hO
    by_cases h1 : k < m
    · have d1 : decide ((k : Int) < (m : Int)) = true := by simp; omega
      by_cases h2 : k < n
      · have d2 : decide ((k : Int) < (n : Int)) = true := by simp; omega
        obtain ⟨b, off, hae, hb, hcl⟩ := HL.out.at k (by rw [Hl.out]; exact h1)
        subst hae
        have c1 := (hB.cell (p := ⟨b, off + k, none⟩) hb).trans hcl
        have HF := Lib.hid (fewL_succ l k (by rw [Hl.out]; exact h1))
        have hfl : (fewL l k).length < 1099511627776 := by rw [fewL_len]; omega
        generalize l.getD k [] = x at *
        obtain ⟨q, eq, hq1, hq2⟩ := cut_at (bs x) 40 (by omega)
        have HX : Hid ((bs x).extract 0 q = bs (x.take 40)) := by
          show _ = _
          rw [extract_bs]
          rw [bs_size] at hq1 eq
          by_cases hx : 40 < x.length
          · rw [if_pos (by omega)] at eq
            rw [show q = 40 from by omega]
          · rw [if_neg (by omega)] at eq
            rw [List.take_of_length_le (show x.length ≤ q by omega), List.take_of_length_le (show x.length ≤ 40 by omega)]
        have hmin : min (((bs x).size : Nat) : Int) 40 = (q : Int) := by rw [← eq]; split <;> omega
        have hqs : (q : Int) ≤ (((bs x).size : Nat) : Int) := by omega
        clear eq
        generalize hft : (bs x).extract 0 q = t at *
        generalize bs x = X at *
        have HB := Lib.hid hB
        have HC := Lib.hid (show ∀ W : World, Below w.heap.size w W → W.cell? ⟨b, off + k, none⟩ = some (.string X) from fun W hW => (hW.cell (p := ⟨b, off + k, none⟩) hb).trans hcl)
        clear hcl hB c1
        go_wp2_with fail
        refine wp_gen (fun W' => Below w.heap.size w W' ∧ OwnS w.heap.size W' u5 (fewL l k)) ⟨HB.out, HO.out⟩ ?_
        rintro W4 ⟨hB4, hS4⟩
        have HB4 := Lib.hid hB4
        have HS4 := Lib.hid hS4
        have hz4 := hB4.size
        have q1 : W4.drew.cell? ⟨b, off + k, none⟩ = some (.string X) := HC.out W4 hB4
        clear hB4 hS4
        obtain ⟨i0, hi0, hz0, hz1, hz2⟩ := info_parts infoS1
        refine wp_region_noPanic ?_
        go_region_law (refine step_append_lies _ (by rfl) _ _ 26 (by rfl) w.heap.size 9 i0 _ 1 16 Tryz.underlying26 hi0 hz0 hz1 hz2 rfl (by omega) u5 (fewL l k).length _ (by rfl) (World.ownsRow.alloc HS4.out _) ⟨W4.heap.size, 0, none⟩ 1 1 [.string t] (by rfl) (by rfl) (World.news_of_block (heap_alloc_new W4.drew _)) (by simp [Value.oneCell']) (by omega) (by unfold maxLen; omega) (by omega) (by simp; omega) (W4.heap.size + 1) (by simp) ?_; intro gg cap w6 hown6 hgrow hat hlt6)
        all_goals
          refine NoPanic.normal ?_
          have hS6 : OwnS w.heap.size w6 (.slice (some ⟨gg, 0, none⟩) ((fewL l k).length + 1) cap) (fewL l (k + 1)) := by
            unfold OwnS
            rw [HF.out, List.length_append, List.map_append, List.map_singleton, ← HX.out]
            exact hown6
          have hB6 : Below w.heap.size w w6 := (HB4.out.drew.alloc hz4 _).grown hgrow (by simp; omega) (fun k hk => (World.ownsRow.lt (World.ownsRow.alloc (show W4.drew.ownsRow w.heap.size 9 1 u5 _ _ from HS4.out) (.cells #[.string t] 9)) k hk).1)
          clear hown6 hgrow hat hlt6
          change Exit.inBlock _ _ _ (Act.put _ (some 5) _) _
          go_wp2
          go_roundw
          case rel => exact ⟨k + 1, by omega, by omega, by go_num, hB6, hS6⟩
          case measure => simp [intOf]; omega
      · have d2 : decide ((k : Int) < (n : Int)) = false := by simp; omega
        obtain rfl : k = n := by omega
        go_wp2
        go_ret
        exact ⟨_, rfl, HO.out, hB⟩
    · have d1 : decide ((k : Int) < (m : Int)) = false := by simp; omega
      obtain rfl : k = m := by omega
      have HF := Lib.hid (fewL_all l n (by rw [Hl.out]; exact hk))
      rw [Hl.out] at HF
      go_wp2
      go_ret
      exact ⟨_, rfl, by rw [HF.out]; exact HO.out, hB⟩
def z32 : Bytes := List.replicate 32 0
theorem mk32 (W : World) : ∃ W1, (Instr.makeSlice 68 (.int .i64 32) (.int .i64 32)).run Tryz.prog W = .ok (.slice (some ⟨W.heap.size, 0, none⟩) 32 32) W1 ∧ Below W.heap.size W W1 ∧ W.heap.size < W1.heap.size ∧
    ∀ W2, Below W1.heap.size W1 W2 → (convert 68 9 (.slice (some ⟨W.heap.size, 0, none⟩) 32 32)).run Tryz.prog W2 = .ok (.string (bs z32)) W2 := by
  obtain ⟨i0, hi, hz0, hz1, hz2⟩ := info_parts info_u8
  obtain ⟨W1, h1, h2, h3⟩ := run_makeSlice_full (P := Tryz.prog) (w := W) W.heap.size 68 5 i0 (.int .u8 0) 1 Tryz.underlying68 hi hz0 hz1 .i64 .i64 32 (by omega) (by rw [hz2]; omega) (by unfold maxLen; omega) (Nat.le_refl _)
  refine ⟨W1, h1, ⟨h3.os, h3.tape, h3.output, h3.size, fun k hk => h3.block k hk (by simp)⟩, (World.ownsRow.lt h2 W.heap.size rfl).2, fun W2 hW => ?_⟩
  refine run_convert_bytes_back W2 68 9 5 ⟨W.heap.size, 0, none⟩ 32 z32 Tryz.underlying68 Tryz.underlying5 Tryz.underlying9 fun j hj => ?_
  have hj' : j < 32 := hj
  have hlt := (World.ownsRow.lt h2 W.heap.size rfl).2
  have hc := World.ownsRow.cellAt h2 j (by omega)
  rw [Addr.add_mid, Nat.zero_add, hW.cell (p := ⟨W.heap.size, j, none⟩) hlt, hc]
  have hm : (madeCells (Value.int .u8 0).cells (32 * 1)).toList = List.replicate 32 (.int .u8 0) := toList_madeCells_one _ _
  rw [hm, List.getElem?_replicate, if_pos hj']
  have hz : z32[j] = 0 := List.getElem_replicate ..
  exact congrArg (fun z : UInt8 => some (Value.int .u8 (z.toNat : Int))) hz.symm
/-- What the steps of the region leave. -/
def OutF (r : Bytes) : Nat → Value → World → Prop := fun k v W =>
  if k = 4 then v = .string (bs r) else ∃ g, v = .slice (some ⟨g, 0, none⟩) 32 32 ∧ ∀ W2, Below W.heap.size W W2 → (convert 68 9 (.slice (some ⟨g, 0, none⟩) 32 32)).run Tryz.prog W2 = .ok (.string (bs z32)) W2
theorem outF_kept {r : Bytes} {k : Nat} {v : Value} {W W' : World} {cc : Option Nat} (h : OutF r k v W) (hg : W.grownBy W' cc) (hc : ∀ g, cc = some g → False) : OutF r k v W' := by
  have hcn : cc = none := by
    cases cc with
    | none => rfl
    | some g => exact absurd rfl (fun e => hc g e)
  subst hcn
  unfold OutF at h ⊢
  split at h
  · rename_i hk; rw [if_pos hk]; exact h
  · rename_i hk; rw [if_neg hk]
    obtain ⟨g, rfl, hb⟩ := h
    exact ⟨g, rfl, fun W2 h2 => hb W2 ((grown_below hg).trans (h2.mono hg.size))⟩
theorem outB_eq (l : List Bytes) : outB l = (l.any (fun x => sha x == z32) || meetB l l) := rfl
set_option maxRecDepth 100000 in
set_option maxHeartbeats 2000000 in
theorem out_any (v : Value) (l : List Bytes) (w : World) (hL : StrsAt w.heap.size w v l) (hl : ∀ x ∈ l, x.length ≤ 1000000) (hn : l.length ≤ 1000000) :
    Calls Tryz.prog 31 #[v] w fun e w' => e = .returned (.bool (outB l)) ∧ Below w.heap.size w w' := by
  obtain ⟨a, c, rfl, hlc, hcm⟩ := hL.shape
  unfold maxLen at hcm
  have HA := Lib.hid hL
  have HLl := Lib.hid hl
  have HO := Lib.hid (outB_eq l)
  clear hL hl
  generalize hm : l.length = n at *
  have Hn := Lib.hid hm
  clear hm
  go_enter Tryz.func31, Tryz.ntmps31
  go_wp2
  go_loopw [3] (fun i wr => ∃ k : Nat, k ≤ n ∧ i = .int .i64 k ∧ Hid (((l.take k).any fun x => sha x == z32) = false) ∧ Below w.heap.size w wr) (fun i _ => n - (intOf i).toNat)
  case atStart => exact ⟨0, Nat.zero_le _, rfl, rfl, Below.refl _ _⟩
  case round =>
    obtain ⟨k, hk, rfl, HC, hW⟩ := hrel
    have hz := hW.size
    by_cases h1 : k < n
    · obtain ⟨b, off, hae, hb, q1⟩ := HA.out.at k (by rw [Hn.out]; exact h1)
      subst hae
      have HQ : Hid (∀ W, wr.grownBy W none → W.cell? ⟨b, off + k, none⟩ = some (.string (bs (l.getD k [])))) := fun W hg => ((hW.trans ((grown_below hg).mono hz)).cell (p := ⟨b, off + k, none⟩) hb).trans q1
      have hyl := HLl.out _ (getD_mem' l [] k (by rw [Hn.out]; exact h1))
      have HSm := Lib.hid (fun W : World => refSum_any (bs (l.getD k [])) W (by rw [bs_size]; omega))
      rw [bs_list] at HSm
      have HC2 := Lib.hid (any_take_succ l (fun x => sha x == z32) k (by rw [Hn.out]; exact h1))
      rw [HC.out, Bool.false_or] at HC2
      have HC3 := Lib.hid (any_hit l (fun x => sha x == z32) k (by rw [Hn.out]; exact h1))
      generalize l.getD k [] = x at *
      generalize sha x = sx at *
      generalize bs x = X at *
      have HEq := Lib.hid (bs_eq_list sx z32)
      have HW := Lib.hid hW
      have kk1 : (k : Int) < (n : Int) := by omega
      have k0 : 0 ≤ (k : Int) := by omega
      clear q1 hW
      cases hsz : (sx == z32)
      all_goals
        rw [hsz] at HEq HC2 HC3
        clear hsz
        go_wp2
        refine wp_region_calm ⟨[4, 5], OutF sx, fun _ => [], 99, none, 1000⟩ (by kernel_rfl) (by kernel_rfl) (by kernel_rfl) (fun g h => by cases h) (fun k hk v W W' c h hg hc => outF_kept h hg fun g hh => ?_) ?_
        · obtain ⟨_, _, i, j, u, hd, _⟩ := hc g hh
          simp at hd
        iterate 4 (refine calm_quiet (v := ?_) (by rfl) (by rfl) (fun W hW hD => ?_) ?_; rotate_left; (· (have z0 := HQ.out W hW; clear hD hW; go_simp; try with_reducible rfl)); simp only [Act.put, List.setIfInBounds_toArray, List.set_cons_zero, List.set_cons_succ, Nat.reduceAdd, Nat.zero_add])
        refine calm_makes (by rfl) (by rfl) (fun W hW hD Kc hK => ?_) (fun v14 => ?_)
        · refine wp_of_call (f := 45) ?_ ((HSm.out W).mono ?_)
          · have z0 := HQ.out W hW
            clear hD hW hK
            go_simp
          · rintro e w5 ⟨rfl, hb5⟩
            exact ⟨_, rfl, hK _ _ (made_plain rfl hb5 rfl)⟩
        simp only [Act.put, List.setIfInBounds_toArray, List.set_cons_zero, List.set_cons_succ, Nat.reduceAdd, Nat.zero_add]
        refine calm_makes (by rfl) (by rfl) (fun W hW hD Kc hK => ?_) (fun v15 => ?_)
        · obtain ⟨W1, hrun, hb1, hlt, hcv⟩ := mk32 W
          refine wp_of_run (v := .slice (some ⟨W.heap.size, 0, none⟩) 32 32) (w' := W1) ?_ (hK _ _ (made_below ⟨W.heap.size, rfl, hcv⟩ hb1 (fun g hg => ?_)))
          · clear hD hW hK hcv
            go_simp
          · have hg' : some W.heap.size = some g := hg
            cases hg'
            exact ⟨Nat.le_refl _, hlt⟩
        simp only [Act.put, List.setIfInBounds_toArray, List.set_cons_zero, List.set_cons_succ, Nat.reduceAdd, Nat.zero_add]
        refine calm_quiet (v := .string (bs z32)) (by rfl) (by rfl) (fun W hW hD => ?_) ?_
        · obtain ⟨g, rfl, hcv⟩ : ∃ g, v15 = .slice (some ⟨g, 0, none⟩) 32 32 ∧ ∀ W2, Below W.heap.size W W2 → (convert 68 9 (.slice (some ⟨g, 0, none⟩) 32 32)).run Tryz.prog W2 = .ok (.string (bs z32)) W2 := hD [] 5 (by kernel_rfl) (by kernel_rfl) (by kernel_rfl)
          have hcv2 := hcv W (Below.refl _ _)
          clear hD hW hcv
          go_simp
        simp only [Act.put, List.setIfInBounds_toArray, List.set_cons_zero, List.set_cons_succ, Nat.reduceAdd, Nat.zero_add]
      · refine calm_quiet (v := .bool false) (by rfl) (by rfl) (fun W hW hD => ?_) ?_
        · obtain rfl : v14 = .string (bs sx) := hD [] 4 (by kernel_rfl) (by kernel_rfl) (by kernel_rfl)
          have he := HEq.out
          clear hD hW
          go_simp
        simp only [Act.put, List.setIfInBounds_toArray, List.set_cons_zero, List.set_cons_succ, Nat.reduceAdd, Nat.zero_add]
        refine calm_nil fun W hW hF => ?_
        have HBf := Lib.hid (HW.out.trans ((grown_below hW).mono HW.out.size))
        clear hF hW HQ HC HW
        go_wp2
        go_roundw
        case rel => exact ⟨k + 1, by omega, by go_num, HC2, HBf.out⟩
        case measure => simp [intOf]; omega
      · refine calm_quiet (v := .bool true) (by rfl) (by rfl) (fun W hW hD => ?_) ?_
        · obtain rfl : v14 = .string (bs sx) := hD [] 4 (by kernel_rfl) (by kernel_rfl) (by kernel_rfl)
          have he := HEq.out
          clear hD hW
          go_simp
        simp only [Act.put, List.setIfInBounds_toArray, List.set_cons_zero, List.set_cons_succ, Nat.reduceAdd, Nat.zero_add]
        refine calm_nil fun W hW hF => ?_
        have HBf := Lib.hid (HW.out.trans ((grown_below hW).mono HW.out.size))
        clear hF hW HQ HC HW
        go_wp2
        go_ret
        exact ⟨by rw [HO.out, (by first | exact HC3.out rfl | exact HC3.out trivial : (l.any fun x => sha x == z32) = true)]; rfl, HBf.out⟩
    · obtain rfl : k = n := by omega
      have hC := HC.out
      rw [List.take_of_length_le (by rw [Hn.out]; exact Nat.le_refl _)] at hC
      have hL2 := HA.out.below (B' := w.heap.size) hW (Nat.le_refl _)
      have HCo := Lib.hid (collided_any _ _ l l wr (hL2.mono hz) (hL2.mono hz) HLl.out HLl.out (by rw [Hn.out]; omega))
      have HW := Lib.hid hW
      have HC := Lib.hid hC
      clear hC hL2 hW
      go_wp2_with fail
      refine HCo.out.mono ?_
      rintro e w2 ⟨rfl, hb⟩
      have HBf := Lib.hid (HW.out.trans (hb.mono hz))
      clear hb
      go_wp2
      go_ret
      exact ⟨by rw [HO.out, HC.out]; rfl, HBf.out⟩
end Go.Proofs.YthfenbdlolbikaaGreatDoor
