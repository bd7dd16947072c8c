import Derived.Test.YthfenbdlolbikaaGreatDoorMLogD
import Derived.Test.YthfenbdlolbikaaGreatDoorMPlain
import Derived.Test.YthfenbdlolbikaaGreatDoorMRefB
set_option linter.unusedVariables false
set_option linter.unusedSimpArgs false

section
/- The small functions of the statements on logbook and of the reference: pick, Key. -/
namespace Go.Proofs.YthfenbdlolbikaaGreatDoor
open Go.RowKit Go.Shelf

set_option maxHeartbeats 400000 in
theorem gpick_any (c n : Int) (w : World) (h1 : -9223372036854775808 ≤ c) (h2 : c ≤ 9223372036854775807) (hn : 1 ≤ n) (hn2 : n ≤ 9223372036854775807) :
    Calls Tryz.prog 17 #[.int .i64 c, .int .i64 n] w fun e w' => e = .returned (.int .i64 (pickZ c n)) ∧ w = w' := by
  by_cases hc : c < 0
  · have hp : pickZ c n = (-(c + 1)).tmod n := by rw [pickZ, if_pos hc]
    rw [hp]
    clear hp
    go_enter Tryz.func17, Tryz.ntmps17
    go_wp2
    go_ret
    exact ⟨ret_int (Int.neg_tmod _ _).symm, rfl⟩
  · have hp : pickZ c n = c.tmod n := by rw [pickZ, if_neg hc]
    rw [hp]
    clear hp
    go_enter Tryz.func17, Tryz.ntmps17
    go_wp2
    go_ret
    exact ⟨ret_int (Int.tmod_eq_emod_of_nonneg (by omega)).symm, rfl⟩
set_option maxHeartbeats 400000 in
theorem gpickR_any (c n : Int) (w : World) (h1 : -9223372036854775808 ≤ c) (h2 : c ≤ 9223372036854775807) (hn : 1 ≤ n) (hn2 : n ≤ 9223372036854775807) :
    Calls Tryz.prog 38 #[.int .i64 c, .int .i64 n] w fun e w' => e = .returned (.int .i64 (pickZ c n)) ∧ w = w' := by
  by_cases hc : c < 0
  · have hp : pickZ c n = (-(c + 1)).tmod n := by rw [pickZ, if_pos hc]
    rw [hp]
    clear hp
    go_enter Tryz.func38, Tryz.ntmps38
    go_wp2
    go_ret
    exact ⟨ret_int (Int.neg_tmod _ _).symm, rfl⟩
  · have hp : pickZ c n = c.tmod n := by rw [pickZ, if_neg hc]
    rw [hp]
    clear hp
    go_enter Tryz.func38, Tryz.ntmps38
    go_wp2
    go_ret
    exact ⟨ret_int (Int.tmod_eq_emod_of_nonneg (by omega)).symm, rfl⟩
/-- A key that an integer determines. -/
def keyB (n : Int) : Bytes := sha (enc (zz (pickZ n 1099511627776)))
theorem keyB_length (n : Int) : (keyB n).length = 32 := sha_length _
set_option maxHeartbeats 1000000 in
theorem key_any (n : Int) (w : World) (h1 : -9223372036854775808 ≤ n) (h2 : n ≤ 9223372036854775807) :
    Calls Tryz.prog 12 #[.int .i64 n] w fun e w' => e = .returned (.string (bs (keyB n))) ∧ Below w.heap.size w w' := by
  have hp := pickZ_bd n 1099511627776 (by omega)
  have HK : Hid (keyB n = sha (enc (zz (pickZ n 1099511627776)))) := rfl
  have HP := Lib.hid (fun W => gpickR_any n 1099511627776 W h1 h2 (by omega) (by omega))
  generalize pickZ n 1099511627776 = z at *
  have hel := enc_length (zz z)
  have hes : (bs (enc (zz z))).size ≤ 10 := by rw [bs_size]; exact hel
  clear hel
  go_enter Tryz.func12, Tryz.ntmps12
  go_wp2_with (first | (go_at_call 38; refine (HP.out _).mono ?_; rintro e w' ⟨rfl, rfl⟩) | (go_at_call 44; refine (refPutInt_yes z _ (by omega) (by omega)).mono ?_; rintro e w1 ⟨rfl, hb1⟩; rw [show strV (enc (zz z)) = .string (bs (enc (zz z))) from rfl]) | (go_at_call 45; refine (refSum_any _ _ (by omega)).mono ?_; rintro e w2 ⟨rfl, hb2⟩))
  rw [bs_list]
  go_ret
  exact ⟨by rw [HK.out]; rfl, hb1.trans (hb2.mono hb1.size)⟩
end Go.Proofs.YthfenbdlolbikaaGreatDoor
end

section
/- The reference's Entry: a record that integers determine. -/
namespace Go.Proofs.YthfenbdlolbikaaGreatDoor
open Go.RowKit Go.Shelf

/-- An array of four ints lies in a block of its own. -/
def FourBox (W : World) (n : Nat) (g : Nat → Int) : Prop := W.heap[n]? = some (.cells #[.int .i64 (g 0), .int .i64 (g 1), .int .i64 (g 2), .int .i64 (g 3)] 67 (0, 0))
theorem FourBox.below {W W' : World} {n : Nat} {g : Nat → Int} {B : Nat} (h : FourBox W n g) (hb : Below B W W') (hn : n < B) : FourBox W' n g := (hb.block n hn).trans h
theorem FourBox.lt {W : World} {n : Nat} {g : Nat → Int} (h : FourBox W n g) : n < W.heap.size := (Array.getElem?_eq_some_iff.1 h).1
theorem FourBox.cells {W : World} {n : Nat} {g : Nat → Int} (h : FourBox W n g) : W.cell? ⟨n, 0, none⟩ = some (.int .i64 (g 0)) ∧ W.cell? ⟨n, 1, none⟩ = some (.int .i64 (g 1)) ∧ W.cell? ⟨n, 2, none⟩ = some (.int .i64 (g 2)) ∧ W.cell? ⟨n, 3, none⟩ = some (.int .i64 (g 3)) := by
  refine ⟨?_, ?_, ?_, ?_⟩ <;> (rw [Lib.cell_of_heap h]; rfl)
abbrev fourV (g : Nat → Int) : Value := .agg #[.int .i64 (g 0), .int .i64 (g 1), .int .i64 (g 2), .int .i64 (g 3)]
theorem tdiv_bd (z k : Int) (hk : 1 ≤ k) : (0 ≤ z → 0 ≤ z.tdiv k ∧ z.tdiv k ≤ z) ∧ (z ≤ 0 → z ≤ z.tdiv k ∧ z.tdiv k ≤ 0) := by
  have h1 : ∀ y : Int, 0 ≤ y → 0 ≤ y.tdiv k ∧ y.tdiv k ≤ y := fun y hy => by
    rw [Int.tdiv_eq_ediv_of_nonneg hy]
    exact ⟨Int.ediv_nonneg hy (by omega), Int.ediv_le_self _ hy⟩
  refine ⟨h1 z, fun hz => ?_⟩
  have h2 := h1 (-z) (by omega)
  rw [Int.neg_tdiv] at h2
  omega
def textAt (z : Int) (i : Nat) : UInt8 := UInt8.ofNat (pickZ (z.tdiv (4 + (i : Int))) 256).toNat
theorem textAt_val (z : Int) (i : Nat) : ((textAt z i).toNat : Int) = pickZ (z.tdiv (4 + (i : Int))) 256 := by
  have := pickZ_bd (z.tdiv (4 + (i : Int))) 256 (by omega)
  unfold textAt
  rw [UInt8.toNat_ofNat']
  omega
theorem textZ_succ (z : Int) (k : Nat) (h : k < (pickZ z 4).toNat) : (textZ z).take (k + 1) = (textZ z).take k ++ [textAt z k] := by
  rw [take_getD (textZ z) 0 k (by unfold textZ; rw [List.length_map, List.length_range]; exact h)]
  congr 2
  unfold textZ
  rw [List.getD_eq_getElem?_getD, List.getElem?_map, List.getElem?_range h]
  rfl
theorem textZ_all (z : Int) : (textZ z).take (pickZ z 4).toNat = textZ z := by
  refine List.take_of_length_le ?_
  unfold textZ
  simp
theorem bs_snoc (l : Bytes) (b : UInt8) : bs l ++ bs [b] = bs (l ++ [b]) := cat_bs l [b]
/-- What the steps of the first region leave. -/
def EntF (B : Nat) (a b c d : Int) : Nat → Value → World → Prop := fun k v W =>
  if k = 1 then v = .int .i64 a else if k = 4 then v = .int .i64 b else if k = 8 then v = .int .i64 c else if k = 12 then v = .int .i64 d
  else ∃ g, v = .pointer (some ⟨g, 0, none⟩) ∧ B ≤ g ∧ RecBox W g default
theorem entF_kept {B k : Nat} {a b c d : Int} {v : Value} {W W' : World} {cc : Option Nat} (h : EntF B a b c d k v W) (hg : W.grownBy W' cc) (hc : ∀ g, cc = some g → False) : EntF B a b c d k v W' := by
  unfold EntF at h ⊢
  split at h
  · rename_i hk; rw [if_pos hk]; exact h
  · rename_i hk; rw [if_neg hk]; split at h
    · rename_i hk; rw [if_pos hk]; exact h
    · rename_i hk; rw [if_neg hk]; split at h
      · rename_i hk; rw [if_pos hk]; exact h
      · rename_i hk; rw [if_neg hk]; split at h
        · rename_i hk; rw [if_pos hk]; exact h
        · rename_i hk; rw [if_neg hk]
          obtain ⟨g, rfl, hB, hb⟩ := h
          exact ⟨g, rfl, hB, (hg.block g hb.lt fun e => hc g e.symm).trans hb⟩
/-- What the steps of the second region leave. -/
def TxtF (B : Nat) (p : Int) (b : UInt8) : Nat → Value → World → Prop := fun k v W =>
  if k = 7 then v = .int .i64 p else ∃ g, v = .slice (some ⟨g, 0, none⟩) 1 1 ∧ B ≤ g ∧ W.heap[g]? = some (.cells #[.int .u8 (b.toNat : Int)] 5 (0, 0))
theorem txtF_kept {B k : Nat} {p : Int} {b : UInt8} {v : Value} {W W' : World} {cc : Option Nat} (h : TxtF B p b k v W) (hg : W.grownBy W' cc) (hc : ∀ g, cc = some g → False) : TxtF B p b k v W' := by
  unfold TxtF at h ⊢
  split at h
  · rename_i hk; rw [if_pos hk]; exact h
  · rename_i hk; rw [if_neg hk]
    obtain ⟨g, rfl, hB, hb⟩ := h
    exact ⟨g, rfl, hB, (hg.block g (Array.getElem?_eq_some_iff.1 hb).1 fun e => hc g e.symm).trans hb⟩
set_option maxRecDepth 100000 in
set_option maxHeartbeats 4000000 in
theorem entry_any (sec : Int) (g : Nat → Int) (w : World) (hs : -9223372036854775808 ≤ sec ∧ sec ≤ 9223372036854775807) (hg : ∀ k, k < 4 → -9223372036854775808 ≤ g k ∧ g k ≤ 9223372036854775807) :
    Calls Tryz.prog 39 #[.int .i64 sec, fourV g] w fun e w' => e = .returned (recV (entryZ sec g)) ∧ Below w.heap.size w w' := by
  have p0 := pickZ_bd sec 10000001 (by omega)
  have p1 := pickZ_bd (g 0) 3 (by omega)
  have p2 := pickZ_bd (g 1) 200 (by omega)
  have p3 := pickZ_bd (g 2) 200 (by omega)
  have p4 := pickZ_bd (g 3) 4 (by omega)
  have HP0 := Lib.hid (fun W => gpickR_any sec 10000001 W hs.1 hs.2 (by omega) (by omega))
  have HP1 := Lib.hid (fun W => gpickR_any (g 0) 3 W (hg 0 (by omega)).1 (hg 0 (by omega)).2 (by omega) (by omega))
  have HP2 := Lib.hid (fun W => gpickR_any (g 1) 200 W (hg 1 (by omega)).1 (hg 1 (by omega)).2 (by omega) (by omega))
  have HP3 := Lib.hid (fun W => gpickR_any (g 2) 200 W (hg 2 (by omega)).1 (hg 2 (by omega)).2 (by omega) (by omega))
  have HP4 := Lib.hid (fun W => gpickR_any (g 3) 4 W (hg 3 (by omega)).1 (hg 3 (by omega)).2 (by omega) (by omega))
  have HPt := Lib.hid (fun (k : Nat) (W : World) (hk : k < 4) => gpickR_any ((g 3).tdiv (4 + (k : Int))) 256 W (by have := (hg 3 (by omega)).1; have := tdiv_bd (g 3) (4 + (k : Int)) (by omega); omega) (by have := (hg 3 (by omega)).2; have := tdiv_bd (g 3) (4 + (k : Int)) (by omega); omega) (by omega) (by omega))
  have HE : Hid (entryZ sec g = ⟨pickZ sec 10000001, 1 + pickZ (g 0) 3, pickZ (g 1) 200 - 1, pickZ (g 2) 200 - 1, textZ (g 3)⟩) := rfl
  have HTs := Lib.hid (textZ_succ (g 3))
  have HTa := Lib.hid (textZ_all (g 3))
  have HTv := Lib.hid (textAt_val (g 3))
  have hz3 := hg 3 (by omega)
  generalize pickZ sec 10000001 = a at *
  generalize pickZ (g 0) 3 = b at *
  generalize pickZ (g 1) 200 = c at *
  generalize pickZ (g 2) 200 = d at *
  obtain ⟨n, hn⟩ := Int.eq_ofNat_of_zero_le p4.1
  rw [hn] at HP4 HTs HTa p4
  simp only [Int.toNat_natCast] at HTs HTa
  clear hn hs hg
  go_enter Tryz.func39, Tryz.ntmps39
  go_wp2_with fail
  obtain ⟨W0, hW0⟩ : ∃ W0, W0 = (w.alloc (.cells #[.int .i64 (g 0), .int .i64 (g 1), .int .i64 (g 2), .int .i64 (g 3)] 67)).alloc (.cells #[.int .i64 0, .int .i64 0, .int .i64 0, .int .i64 0, .string (⟨#[]⟩ : ByteArray)] 48) := ⟨_, rfl⟩
  have hb0 : Below w.heap.size w W0 := by rw [hW0]; exact ((Below.refl _ _).alloc (Nat.le_refl _) _).alloc (by simp) _
  have hsz0 : W0.heap.size = w.heap.size + 2 := by rw [hW0]; simp
  have hF0 : FourBox W0 w.heap.size g := by rw [hW0]; exact (show FourBox (w.alloc _) w.heap.size g from heap_alloc_new w _).below ((Below.refl (w.heap.size + 1) _).alloc (by simp) _) (by omega)
  have hR0 : RecBox W0 (w.heap.size + 1) default := by
    rw [hW0]
    have := recBox_new (w.alloc (.cells #[.int .i64 (g 0), .int .i64 (g 1), .int .i64 (g 2), .int .i64 (g 3)] 67)) default
    rw [World.size_alloc] at this
    exact this
  rw [← hW0]
  clear hW0
  have HQ : Hid (∀ W, W0.grownBy W none → W.cell? ⟨w.heap.size, 0, none⟩ = some (.int .i64 (g 0)) ∧ W.cell? ⟨w.heap.size, 1, none⟩ = some (.int .i64 (g 1)) ∧ W.cell? ⟨w.heap.size, 2, none⟩ = some (.int .i64 (g 2)) ∧ W.cell? ⟨w.heap.size, 3, none⟩ = some (.int .i64 (g 3))) := fun W hW => (hF0.below (grown_below hW) hF0.lt).cells
  have HB0 := Lib.hid hb0
  have HF0 := Lib.hid hF0
  have HR0 := Lib.hid hR0
  have w1 : IntKind.i64.wrap (1 + b) = 1 + b := IntWalk.i64_in _ (by omega)
  have w2 : IntKind.i64.wrap (c - 1) = c - 1 := IntWalk.i64_in _ (by omega)
  have w3 : IntKind.i64.wrap (d - 1) = d - 1 := IntWalk.i64_in _ (by omega)
  clear hb0 hF0 hR0
  refine wp_region_calm ⟨[1, 4, 8, 12, 15], EntF W0.heap.size a b c d, fun _ => [], 99, none, 16⟩ (by kernel_rfl) (by kernel_rfl) (by kernel_rfl) (fun g h => by cases h) (fun k hk v W W' c h hg hc => entF_kept h hg fun g hh => ?_) ?_
  · obtain ⟨_, _, i, j, u, hd, _⟩ := hc g hh
    simp at hd
  iterate 1 (refine calm_quiet (v := ?_) (by rfl) (by rfl) (fun W hW hD => ?_) ?_; rotate_left; (· (obtain ⟨z0, z1, z2, z3⟩ := HQ.out W hW; clear hD hW; go_simp; try with_reducible rfl)); simp only [Act.put, List.setIfInBounds_toArray, List.set_cons_zero, List.set_cons_succ, Nat.reduceAdd, Nat.zero_add])
  refine calm_makes (by rfl) (by rfl) (fun W hW hD K hK => ?_) (fun v8 => ?_)
  · refine wp_of_call (f := 38) ?_ ((HP0.out W).mono ?_)
    · obtain ⟨z0, z1, z2, z3⟩ := HQ.out W hW
      clear hD hW hK
      go_simp
    · rintro e w5 ⟨rfl, rfl⟩
      exact ⟨_, rfl, hK _ _ (made_plain rfl (Below.refl _ _) rfl)⟩
  simp only [Act.put, List.setIfInBounds_toArray, List.set_cons_zero, List.set_cons_succ, Nat.reduceAdd, Nat.zero_add]
  iterate 2 (refine calm_quiet (v := ?_) (by rfl) (by rfl) (fun W hW hD => ?_) ?_; rotate_left; (· (obtain ⟨z0, z1, z2, z3⟩ := HQ.out W hW; clear hD hW; go_simp; try with_reducible rfl)); simp only [Act.put, List.setIfInBounds_toArray, List.set_cons_zero, List.set_cons_succ, Nat.reduceAdd, Nat.zero_add])
  refine calm_makes (by rfl) (by rfl) (fun W hW hD K hK => ?_) (fun v11 => ?_)
  · refine wp_of_call (f := 38) ?_ ((HP1.out W).mono ?_)
    · obtain ⟨z0, z1, z2, z3⟩ := HQ.out W hW
      clear hD hW hK
      go_simp
    · rintro e w5 ⟨rfl, rfl⟩
      exact ⟨_, rfl, hK _ _ (made_plain rfl (Below.refl _ _) rfl)⟩
  simp only [Act.put, List.setIfInBounds_toArray, List.set_cons_zero, List.set_cons_succ, Nat.reduceAdd, Nat.zero_add]
  refine calm_quiet (v := .int .i64 (1 + b)) (by rfl) (by rfl) (fun W hW hD => ?_) ?_
  · obtain rfl : v11 = .int .i64 b := hD [] 4 (by kernel_rfl) (by kernel_rfl) (by kernel_rfl)
    clear hD hW
    go_simp
  simp only [Act.put, List.setIfInBounds_toArray, List.set_cons_zero, List.set_cons_succ, Nat.reduceAdd, Nat.zero_add]
  iterate 2 (refine calm_quiet (v := ?_) (by rfl) (by rfl) (fun W hW hD => ?_) ?_; rotate_left; (· (obtain ⟨z0, z1, z2, z3⟩ := HQ.out W hW; clear hD hW; go_simp; try with_reducible rfl)); simp only [Act.put, List.setIfInBounds_toArray, List.set_cons_zero, List.set_cons_succ, Nat.reduceAdd, Nat.zero_add])
  refine calm_makes (by rfl) (by rfl) (fun W hW hD K hK => ?_) (fun v15 => ?_)
  · refine wp_of_call (f := 38) ?_ ((HP2.out W).mono ?_)
    · obtain ⟨z0, z1, z2, z3⟩ := HQ.out W hW
      clear hD hW hK
      go_simp
    · rintro e w5 ⟨rfl, rfl⟩
      exact ⟨_, rfl, hK _ _ (made_plain rfl (Below.refl _ _) rfl)⟩
  simp only [Act.put, List.setIfInBounds_toArray, List.set_cons_zero, List.set_cons_succ, Nat.reduceAdd, Nat.zero_add]
  refine calm_quiet (v := .int .i64 (c - 1)) (by rfl) (by rfl) (fun W hW hD => ?_) ?_
  · obtain rfl : v15 = .int .i64 c := hD [] 8 (by kernel_rfl) (by kernel_rfl) (by kernel_rfl)
    clear hD hW
    go_simp
  simp only [Act.put, List.setIfInBounds_toArray, List.set_cons_zero, List.set_cons_succ, Nat.reduceAdd, Nat.zero_add]
  iterate 2 (refine calm_quiet (v := ?_) (by rfl) (by rfl) (fun W hW hD => ?_) ?_; rotate_left; (· (obtain ⟨z0, z1, z2, z3⟩ := HQ.out W hW; clear hD hW; go_simp; try with_reducible rfl)); simp only [Act.put, List.setIfInBounds_toArray, List.set_cons_zero, List.set_cons_succ, Nat.reduceAdd, Nat.zero_add])
  refine calm_makes (by rfl) (by rfl) (fun W hW hD K hK => ?_) (fun v19 => ?_)
  · refine wp_of_call (f := 38) ?_ ((HP3.out W).mono ?_)
    · obtain ⟨z0, z1, z2, z3⟩ := HQ.out W hW
      clear hD hW hK
      go_simp
    · rintro e w5 ⟨rfl, rfl⟩
      exact ⟨_, rfl, hK _ _ (made_plain rfl (Below.refl _ _) rfl)⟩
  simp only [Act.put, List.setIfInBounds_toArray, List.set_cons_zero, List.set_cons_succ, Nat.reduceAdd, Nat.zero_add]
  refine calm_quiet (v := .int .i64 (d - 1)) (by rfl) (by rfl) (fun W hW hD => ?_) ?_
  · obtain rfl : v19 = .int .i64 d := hD [] 12 (by kernel_rfl) (by kernel_rfl) (by kernel_rfl)
    clear hD hW
    go_simp
  simp only [Act.put, List.setIfInBounds_toArray, List.set_cons_zero, List.set_cons_succ, Nat.reduceAdd, Nat.zero_add]
  refine calm_quiet (v := .agg #[.int .i64 a, .int .i64 (1 + b), .int .i64 (c - 1), .int .i64 (d - 1), .string (⟨#[]⟩ : ByteArray)]) (by rfl) (by rfl) (fun W hW hD => ?_) ?_
  · obtain rfl : v8 = .int .i64 a := hD [] 1 (by kernel_rfl) (by kernel_rfl) (by kernel_rfl)
    clear hD hW
    go_simp
  simp only [Act.put, List.setIfInBounds_toArray, List.set_cons_zero, List.set_cons_succ, Nat.reduceAdd, Nat.zero_add]
  refine calm_makes (by rfl) (by rfl) (fun W hW hD K hK => ?_) (fun v5 => ?_)
  · refine wp_of_run (v := .pointer (some ⟨W.heap.size, 0, none⟩)) (w' := W.alloc (.cells #[.int .i64 0, .int .i64 0, .int .i64 0, .int .i64 0, .string (⟨#[]⟩ : ByteArray)] 48)) ?_ (hK _ _ (made_plain ⟨W.heap.size, rfl, hW.size, recBox_new W default⟩ ((Below.refl _ _).alloc (Nat.le_refl _) _) rfl))
    clear hD hW hK
    go_simp
  simp only [Act.put, List.setIfInBounds_toArray, List.set_cons_zero, List.set_cons_succ, Nat.reduceAdd, Nat.zero_add]
  refine calm_tail (by rfl) fun W hW hF => ?_
  obtain ⟨G, hv5, hGB, hGb⟩ : ∃ G, v5 = .pointer (some ⟨G, 0, none⟩) ∧ W0.heap.size ≤ G ∧ RecBox W G default := hF 15 (by kernel_rfl) (by kernel_rfl)
  subst hv5
  have hbW := grown_below hW
  have hFw := HF0.out.below hbW HF0.out.lt
  have hRw := HR0.out.below hbW HR0.out.lt
  obtain ⟨q0, q1, q2, q3, q4⟩ := hGb.cells
  have qf : ∀ j, W.frozen? ⟨G, j, none⟩ = false := Lib.frozen_of_heap hGb
  obtain ⟨W1, hW1⟩ : ∃ W1, W1 = ((((W.setCell ⟨G, 0, none⟩ (.int .i64 a)).setCell ⟨G, 1, none⟩ (.int .i64 (1 + b))).setCell ⟨G, 2, none⟩ (.int .i64 (c - 1))).setCell ⟨G, 3, none⟩ (.int .i64 (d - 1))).setCell ⟨G, 4, none⟩ (.string (⟨#[]⟩ : ByteArray)) := ⟨_, rfl⟩
  have hb1 : Below W0.heap.size W W1 := by
    rw [hW1]
    exact (((((Below.refl W0.heap.size W).setCell (p := ⟨G, 0, none⟩) hGB _).setCell (p := ⟨G, 1, none⟩) hGB _).setCell (p := ⟨G, 2, none⟩) hGB _).setCell (p := ⟨G, 3, none⟩) hGB _).setCell (p := ⟨G, 4, none⟩) hGB _
  have hG1 : RecBox W1 G ⟨a, 1 + b, c - 1, d - 1, []⟩ := by
    rw [hW1]
    exact heap_set (heap_set (heap_set (heap_set (heap_set hGb 0 (.int .i64 a)) 1 (.int .i64 (1 + b))) 2 (.int .i64 (c - 1))) 3 (.int .i64 (d - 1))) 4 (.string (⟨#[]⟩ : ByteArray))
  have HW1 := Lib.hid hW1
  have HB1 := Lib.hid (HB0.out.trans ((hbW.trans hb1).mono (by omega)))
  have HG1 := Lib.hid hG1
  have HF1 := Lib.hid (hFw.below hb1 (by omega))
  have HR1 := Lib.hid (hRw.below hb1 (by omega))
  have hz1 := hb1.size
  have hz0 := hbW.size
  clear hF hW hbW hFw hRw hW1 hb1 hG1 HQ HB0 HF0 HR0 hGb
  go_wp2_with fail
  rw [← HW1.out]
  have hw0 : w.heap.size < G := by omega
  go_loopw [6] (fun i wr => ∃ k : Nat, k ≤ n ∧ i = .int .i64 k ∧ RecBox wr G ⟨a, 1 + b, c - 1, d - 1, (textZ (g 3)).take k⟩ ∧ FourBox wr w.heap.size g ∧ RecBox wr (w.heap.size + 1) default ∧ Below w.heap.size w wr) (fun i _ => n - (intOf i).toNat)
  case atStart => exact ⟨0, Nat.zero_le _, rfl, HG1.out, HF1.out, HR1.out, HB1.out⟩
  case round =>
    obtain ⟨k, hk, rfl, hG, hF, hR, hB⟩ := hrel
    have hF3 := hF.cells.2.2.2
    have hzB := hB.size
    by_cases hkn : k < n
    · have d1 : decide ((k : Int) < (n : Int)) = true := by simp; omega
      have HT1 := Lib.hid (HTs.out k hkn)
      have HTv1 := Lib.hid (HTv.out k)
      have hk4 : k < 4 := by omega
      have HPk := Lib.hid (fun W => HPt.out k W hk4)
      have hdb := tdiv_bd (g 3) (4 + (k : Int)) (by omega)
      have t1 : IntKind.i64.wrap (4 + (k : Int)) = 4 + (k : Int) := IntWalk.i64_in _ (by omega)
      have t2 : ¬ (4 + (k : Int) = 0) := by omega
      have t3 : IntKind.i64.wrap ((g 3).tdiv (4 + (k : Int))) = (g 3).tdiv (4 + (k : Int)) := IntWalk.i64_in _ (by omega)
      have hpb := pickZ_bd ((g 3).tdiv (4 + (k : Int))) 256 (by omega)
      have t4 : IntKind.u8.wrap (pickZ ((g 3).tdiv (4 + (k : Int))) 256) = pickZ ((g 3).tdiv (4 + (k : Int))) 256 := by
        rw [IntKind.wrap_u8]
        omega
      rw [← HTv1.out] at HPk t4
      have htl : ((textZ (g 3)).take k).length ≤ 3 := by rw [List.length_take]; have := textZ_length (g 3); omega
      generalize (textZ (g 3)).take k = T at *
      generalize textAt (g 3) k = B8 at *
      have HQ : Hid (∀ W, wr.grownBy W none → W.cell? ⟨G, 4, none⟩ = some (.string (bs T)) ∧ W.cell? ⟨w.heap.size, 3, none⟩ = some (.int .i64 (g 3))) := fun W hW => by
        have hb := grown_below hW
        exact ⟨(hG.below hb hG.lt).cells.2.2.2.2, (hF.below hb hF.lt).cells.2.2.2⟩
      have hts : (bs T).size ≤ 3 := by rw [bs_size]; exact htl
      have HG := Lib.hid hG
      have HF := Lib.hid hF
      have HR := Lib.hid hR
      have HB := Lib.hid hB
      have HCat := Lib.hid (bs_snoc T B8)
      clear hG hF hR hB htl hdb hpb HW1 HB1 HG1 HF1 HR1 q0 q1 q2 q3 q4 qf
      go_wp2_with (go_at_call 38; refine (HP4.out _).mono ?_; rintro e w' ⟨rfl, rfl⟩)
      refine wp_region_calm ⟨[7, 9], TxtF wr.heap.size (B8.toNat : Int) B8, fun _ => [], 99, none, 13⟩ (by kernel_rfl) (by kernel_rfl) (by kernel_rfl) (fun g h => by cases h) (fun k hk v W W' c h hg hc => txtF_kept h hg fun g hh => ?_) ?_
      · obtain ⟨_, _, i, j, u, hd, _⟩ := hc g hh
        simp at hd
      iterate 6 (refine calm_quiet (v := ?_) (by rfl) (by rfl) (fun W hW hD => ?_) ?_; rotate_left; (· (obtain ⟨z0, z1⟩ := HQ.out W hW; clear hD hW; go_simp; try with_reducible rfl)); simp only [Act.put, List.setIfInBounds_toArray, List.set_cons_zero, List.set_cons_succ, Nat.reduceAdd, Nat.zero_add])
      refine calm_quiet (v := .int .i64 ((g 3).tdiv (4 + (k : Int)))) (by rfl) (by rfl) (fun W hW hD => ?_) ?_
      · clear hD hW
        go_simp
        try (first | exact t3 | (rw [t3]))
      simp only [Act.put, List.setIfInBounds_toArray, List.set_cons_zero, List.set_cons_succ, Nat.reduceAdd, Nat.zero_add]
      refine calm_makes (by rfl) (by rfl) (fun W hW hD K hK => ?_) (fun v36 => ?_)
      · refine wp_of_call (f := 38) ?_ ((HPk.out W).mono ?_)
        · clear hD hW hK
          go_simp
        · rintro e w5 ⟨rfl, rfl⟩
          exact ⟨_, rfl, hK _ _ (made_plain rfl (Below.refl _ _) rfl)⟩
      simp only [Act.put, List.setIfInBounds_toArray, List.set_cons_zero, List.set_cons_succ, Nat.reduceAdd, Nat.zero_add]
      refine calm_quiet (v := .int .u8 (B8.toNat : Int)) (by rfl) (by rfl) (fun W hW hD => ?_) ?_
      · obtain rfl : v36 = .int .i64 (B8.toNat : Int) := hD [] 7 (by kernel_rfl) (by kernel_rfl) (by kernel_rfl)
        clear hD hW
        go_simp
      simp only [Act.put, List.setIfInBounds_toArray, List.set_cons_zero, List.set_cons_succ, Nat.reduceAdd, Nat.zero_add]
      refine calm_makes (by rfl) (by rfl) (fun W hW hD K hK => ?_) (fun v38 => ?_)
      · refine wp_of_run (v := .slice (some ⟨W.heap.size, 0, none⟩) 1 1) (w' := W.alloc (.cells #[.int .u8 (B8.toNat : Int)] 5)) ?_ (hK _ _ (made_below ⟨W.heap.size, rfl, hW.size, heap_alloc_new W _⟩ ((Below.refl _ _).alloc (Nat.le_refl _) _) (fun g hg => ?_)))
        · clear hD hW hK
          go_simp
        · have hg' : some W.heap.size = some g := hg
          cases hg'
          exact ⟨Nat.le_refl _, by simp⟩
      simp only [Act.put, List.setIfInBounds_toArray, List.set_cons_zero, List.set_cons_succ, Nat.reduceAdd, Nat.zero_add]
      refine calm_quiet (v := .string (bs [B8])) (by rfl) (by rfl) (fun W hW hD => ?_) ?_
      · obtain ⟨q, rfl, _, hq⟩ : ∃ q, v38 = .slice (some ⟨q, 0, none⟩) 1 1 ∧ wr.heap.size ≤ q ∧ W.heap[q]? = some (.cells #[.int .u8 (B8.toNat : Int)] 5 (0, 0)) := hD [] 9 (by kernel_rfl) (by kernel_rfl) (by kernel_rfl)
        have hcv := run_convert_bytes_back W 68 9 5 ⟨q, 0, none⟩ 1 [B8] Tryz.underlying68 Tryz.underlying5 Tryz.underlying9 (fun j hj => by
          match j, hj with
          | 0, _ => rw [show ((⟨q, 0, none⟩ : Addr).add 0) = ⟨q, 0, none⟩ from rfl, Lib.cell_of_heap hq]; rfl)
        have hcv2 : (convert 68 9 (.slice (some ⟨q, 0, none⟩) 1 1)).run Tryz.prog W = .ok (.string (bs [B8])) W := hcv
        clear hD hW hq hcv
        go_simp
      simp only [Act.put, List.setIfInBounds_toArray, List.set_cons_zero, List.set_cons_succ, Nat.reduceAdd, Nat.zero_add]
      refine calm_quiet (v := .string (bs (T ++ [B8]))) (by rfl) (by rfl) (fun W hW hD => ?_) ?_
      · have hsz : ¬ (9223372036854775807 < (bs T).size + (bs [B8]).size) := by rw [bs_size [B8], List.length_singleton]; omega
        clear hD hW
        rw [← HCat.out]
        go_simp
      simp only [Act.put, List.setIfInBounds_toArray, List.set_cons_zero, List.set_cons_succ, Nat.reduceAdd, Nat.zero_add]
      iterate 1 (refine calm_quiet (v := ?_) (by rfl) (by rfl) (fun W hW hD => ?_) ?_; rotate_left; (· (obtain ⟨z0, z1⟩ := HQ.out W hW; clear hD hW; go_simp; try with_reducible rfl)); simp only [Act.put, List.setIfInBounds_toArray, List.set_cons_zero, List.set_cons_succ, Nat.reduceAdd, Nat.zero_add])
      refine calm_tail (by rfl) fun W hW hF => ?_
      have hbW := grown_below hW
      have hGw := HG.out.below hbW HG.out.lt
      obtain ⟨q0, q1, q2, q3, q4⟩ := hGw.cells
      have qf : ∀ j, W.frozen? ⟨G, j, none⟩ = false := Lib.frozen_of_heap hGw
      have HFw := Lib.hid ((hbW.block _ HF.out.lt).trans HF.out)
      have HGs := Lib.hid (heap_set hGw 4 (.string (bs (T ++ [B8]))))
      have HFs := Lib.hid ((heap_set_ne W (show w.heap.size ≠ G by omega) 4 (.string (bs (T ++ [B8])))).trans HFw.out)
      have HRs := Lib.hid ((heap_set_ne W (show w.heap.size + 1 ≠ G by omega) 4 (.string (bs (T ++ [B8])))).trans ((hbW.block _ HR.out.lt).trans HR.out))
      have HBs := Lib.hid ((HB.out.trans (hbW.mono (by omega))).setCell (p := ⟨G, 4, none⟩) (by show w.heap.size ≤ G; omega) (.string (bs (T ++ [B8]))))
      clear hF hW hbW hGw
      go_wp2
      go_roundw
      case rel => exact ⟨k + 1, by omega, by go_num, by rw [HT1.out]; exact HGs.out, HFs.out, HRs.out, HBs.out⟩
      case measure => simp [intOf]; omega
    · obtain rfl : k = n := by omega
      have d1 : decide ((k : Int) < (k : Int)) = false := by simp
      rw [HTa.out] at hG
      obtain ⟨q0, q1, q2, q3, q4⟩ := hG.cells
      obtain ⟨r0, r1, r2, r3, r4⟩ := hR.cells
      have rf : ∀ j, wr.frozen? ⟨w.heap.size + 1, j, none⟩ = false := Lib.frozen_of_heap hR
      have HF2 := Lib.hid (heap_set (heap_set (heap_set (heap_set (heap_set hR 0 (.int .i64 a)) 1 (.int .i64 (1 + b))) 2 (.int .i64 (c - 1))) 3 (.int .i64 (d - 1))) 4 (.string (bs (textZ (g 3)))))
      have HBs := Lib.hid (((((hB.setCell (p := ⟨w.heap.size + 1, 0, none⟩) (by simp) (.int .i64 a)).setCell (p := ⟨w.heap.size + 1, 1, none⟩) (by simp) (.int .i64 (1 + b))).setCell (p := ⟨w.heap.size + 1, 2, none⟩) (by simp) (.int .i64 (c - 1))).setCell (p := ⟨w.heap.size + 1, 3, none⟩) (by simp) (.int .i64 (d - 1))).setCell (p := ⟨w.heap.size + 1, 4, none⟩) (by simp) (.string (bs (textZ (g 3)))))
      clear hG hR hF hB HW1 HB1 HG1 HF1 HR1
      simp only at q0 q1 q2 q3 q4
      go_wp2_with (go_at_call 38; refine (HP4.out _).mono ?_; rintro e w' ⟨rfl, rfl⟩)
      have hfin := (show RecBox _ (w.heap.size + 1) ⟨a, 1 + b, c - 1, d - 1, textZ (g 3)⟩ from HF2.out).cells
      obtain ⟨c0, c1, c2, c3, c4⟩ := hfin
      exact bodyPost_ret (v := recV ⟨a, 1 + b, c - 1, d - 1, textZ (g 3)⟩) (by simp [results, Tryz.results39, go_sem, c0, c1, c2, c3, c4]) rfl ⟨by rw [HE.out], HBs.out⟩
end Go.Proofs.YthfenbdlolbikaaGreatDoor
end

section
/- The reference's Made: a logbook that integers determine. -/
namespace Go.Proofs.YthfenbdlolbikaaGreatDoor
open Go.RowKit Go.Shelf

/-- A slice of arrays of five ints. -/
def FiveAt (B : Nat) (w : World) (v : Value) (n : Nat) (f : Nat → Nat → Int) : Prop :=
  (∃ (a : Option Addr) (c : Nat), v = .slice a n c ∧ n ≤ c ∧ c ≤ maxLen ∧ (0 < n → ∃ b off, a = some ⟨b, off, none⟩ ∧ b < B ∧ ∀ i k, i < n → k < 5 → w.cell? ⟨b, off + i * 5 + k, none⟩ = some (.int .i64 (f i k)))) ∧
    ∀ i k, i < n → k < 5 → -9223372036854775808 ≤ f i k ∧ f i k ≤ 9223372036854775807
theorem FiveAt.below {B B' : Nat} {w w' : World} {v : Value} {n : Nat} {f : Nat → Nat → Int} (h : FiveAt B w v n f) (hb : Below B' w w') (hB : B ≤ B') : FiveAt B w' v n f := by
  obtain ⟨⟨a, c, rfl, h1, h2, h3⟩, h4⟩ := h
  refine ⟨⟨a, c, rfl, h1, h2, fun hp => ?_⟩, h4⟩
  obtain ⟨b, off, rfl, hlt, hc⟩ := h3 hp
  exact ⟨b, off, rfl, hlt, fun i k hi hk => (hb.cell (p := ⟨b, off + i * 5 + k, none⟩) (Nat.lt_of_lt_of_le hlt hB)).trans (hc i k hi hk)⟩
theorem FiveAt.mono {B B' : Nat} {w : World} {v : Value} {n : Nat} {f : Nat → Nat → Int} (h : FiveAt B w v n f) (hB : B ≤ B') : FiveAt B' w v n f := by
  obtain ⟨⟨a, c, rfl, h1, h2, h3⟩, h4⟩ := h
  refine ⟨⟨a, c, rfl, h1, h2, fun hp => ?_⟩, h4⟩
  obtain ⟨b, off, rfl, hlt, hc⟩ := h3 hp
  exact ⟨b, off, rfl, Nat.lt_of_lt_of_le hlt hB, hc⟩
theorem FiveAt.later {w w' : World} {v : Value} {n : Nat} {f : Nat → Nat → Int} (h : FiveAt w.heap.size w v n f) (hb : Below w.heap.size w w') : FiveAt w'.heap.size w' v n f := (h.below hb (Nat.le_refl _)).mono hb.size
def secN (f : Nat → Nat → Int) (j : Nat) : Int := secTo f (j + 1)
/-- What the steps of the region leave. -/
def MadeF (B0 B : Nat) (rv : Value) (rs : List LRec) (x : LRec) : Nat → Value → World → Prop := fun k v W =>
  if k = 1 then v = rv ∧ OwnG B W rv rs else if k = 24 then v = recV x else if k = 25 then OwnG B0 W v [x] else OwnG B W v (rs ++ [x])
theorem madeF_kept {B0 B k : Nat} {rv : Value} {rs : List LRec} {x : LRec} {v : Value} {W W' : World} {c : Option Nat} (hk : [1, 24, 25, 26].contains k = true) (h : MadeF B0 B rv rs x k v W) (hg : W.grownBy W' c) (hc : ∀ g, c = some g → v.ownBlock ≠ some g) : MadeF B0 B rv rs x k v W' := by
  unfold MadeF at h ⊢
  split at h
  · rename_i hk
    rw [if_pos hk]
    obtain ⟨rfl, h⟩ := h
    exact ⟨rfl, rowG_kept h hg hc⟩
  · rename_i hk
    rw [if_neg hk]
    split at h
    · rename_i hk
      rw [if_pos hk]
      exact h
    · rename_i hk
      rw [if_neg hk]
      split at h
      · rename_i hk
        rw [if_pos hk]
        exact rowG_kept h hg hc
      · rename_i hk
        rw [if_neg hk]
        exact rowG_kept h hg hc
theorem ownG_lit1' (W : World) (x : LRec) (cs : Array Value) (h : cs = #[.int .i64 x.sec, .int .i64 x.kind, .int .i64 x.a, .int .i64 x.b, .string (bs x.text)]) : OwnG W.heap.size (W.alloc (.cells cs 48)) (.slice (some ⟨W.heap.size, 0, none⟩) 1 1) [x] := by
  subst h
  exact ownG_lit1 W x
set_option maxRecDepth 100000 in
set_option maxHeartbeats 4000000 in
theorem made_any (o : Int) (xv : Value) (N : Nat) (f : Nat → Nat → Int) (w : World) (ho : -9223372036854775808 ≤ o ∧ o ≤ 9223372036854775807) (hX : FiveAt w.heap.size w xv N f) :
    Calls Tryz.prog 7 #[.int .i64 o, xv] w fun e w' => ∃ rv, e = .returned (bookV (madeBook o N f).office rv) ∧ OwnG w.heap.size w' rv (madeBook o N f).recs ∧ Below w.heap.size w w' := by
  obtain ⟨⟨xa, xc, rfl, hxc1, hxc2, hxc⟩, hbd⟩ := hX
  unfold maxLen at hxc2
  have HX := Lib.hid hxc
  have HBd := Lib.hid hbd
  have HMk : Hid (madeBook o N f = ⟨pickZ o 100, madeRecs f (min N 12)⟩) := rfl
  have p0 := pickZ_bd o 100 (by omega)
  have HP0 := Lib.hid (fun W => gpickR_any o 100 W ho.1 ho.2 (by omega) (by omega))
  have HSc := Lib.hid (fun j => secTo_bd f j)
  have HMs := Lib.hid (madeRecs_succ f)
  have HMl := Lib.hid (madeRecs_length f)
  generalize pickZ o 100 = O at *
  clear hxc hbd ho
  go_enter Tryz.func7, Tryz.ntmps7
  go_wp2_with (go_at_call 38; refine (HP0.out _).mono ?_; rintro e w' ⟨rfl, rfl⟩)
  obtain ⟨W0, hW0⟩ : ∃ W0, W0 = (w.alloc (.cells #[.int .i64 0, .slice none 0 0] 25)).alloc (.cells #[.int .i64 O, .slice none 0 0] 25) := ⟨_, rfl⟩
  have hb0 : Below w.heap.size w W0 := by rw [hW0]; exact ((Below.refl _ _).alloc (Nat.le_refl _) _).alloc (by simp) _
  have hsz0 : W0.heap.size = w.heap.size + 2 := by rw [hW0]; simp
  have hR0 : LogBox W0 w.heap.size 0 (.slice none 0 0) := by rw [hW0]; exact (logBox_new w 0 (.slice none 0 0)).below ((Below.refl (w.heap.size + 1) _).alloc (by simp) _) (by omega)
  have hL0 : LogBox W0 (w.heap.size + 1) O (.slice none 0 0) := by
    rw [hW0]
    have := logBox_new (w.alloc (.cells #[.int .i64 0, .slice none 0 0] 25)) O (.slice none 0 0)
    rwa [World.size_alloc] at this
  rw [← hW0]
  clear hW0
  go_loopw [6, 7] (fun at_ i wr => ∃ (j : Nat) (rv : Value), j ≤ N ∧ j ≤ 12 ∧ i = .int .i64 j ∧ at_ = .int .i64 (secTo f j) ∧ LogBox wr w.heap.size 0 (.slice none 0 0) ∧ LogBox wr (w.heap.size + 1) O rv ∧ OwnG (w.heap.size + 2) wr rv (madeRecs f j) ∧ Below w.heap.size w wr ∧ w.heap.size + 2 ≤ wr.heap.size) (fun _ i _ => N - (intOf i).toNat)
  case atStart => exact ⟨0, _, Nat.zero_le _, Nat.zero_le _, rfl, rfl, hR0, hL0, World.ownsRow_nil _ _ _ _, hb0, by omega⟩
  case round =>
    clear hb0 hR0 hL0
    obtain ⟨j, rv, hj, hj12, rfl, rfl, hR, hL, hO, hB, hz⟩ := hrel
    by_cases h1 : j < N
    · by_cases h2 : j < 12
      · have d1 : decide ((j : Int) < (N : Int)) = true := by simp; omega
        have d2 : decide ((j : Int) < 12) = true := by simp; omega
        obtain ⟨b, off, rfl, hb, hc⟩ := HX.out (by omega)
        have HC := Lib.hid (fun (W : World) (hW : Below w.heap.size w W) (k : Nat) (hk : k < 5) => (hW.cell (p := ⟨b, off + j * 5 + k, none⟩) hb).trans (hc j k h1 hk))
        have hp := pickZ_bd (f j 0) 30 (by omega)
        have HPj := Lib.hid (fun W => gpickR_any (f j 0) 30 W (HBd.out j 0 h1 (by omega)).1 (HBd.out j 0 h1 (by omega)).2 (by omega) (by omega))
        have hs1 := HSc.out j
        have hs2 := HSc.out (j + 1)
        have HSj : Hid (secTo f (j + 1) = secN f j) := rfl
        have HS1 : Hid (secTo f (j + 1) = secTo f j + pickZ (f j 0) 30) := rfl
        have HEn := Lib.hid (fun W => entry_any (secTo f (j + 1)) (fun k => f j (k + 1)) W (by omega) (fun k hk => HBd.out j (k + 1) h1 (by omega)))
        have HMr : Hid (madeRec f j = entryZ (secTo f (j + 1)) fun k => f j (k + 1)) := rfl
        rw [← HMr.out] at HEn
        have HMs1 := Lib.hid (HMs.out j)
        have hml : (madeRecs f j).length ≤ 12 := by rw [HMl.out]; exact hj12
        have c0 := HC.out wr hB 0 (by omega)
        rw [Nat.add_zero] at c0
        have w1 : IntKind.i64.wrap (secTo f j + pickZ (f j 0) 30) = secTo f j + pickZ (f j 0) 30 := IntWalk.i64_in _ (by omega)
        rw [← HS1.out] at w1
        have e0 := HBd.out j 0 h1 (by omega)
        clear hc
        generalize secTo f (j + 1) = S1 at *
        have hS1 : secTo f j + pickZ (f j 0) 30 = S1 := HS1.out.symm
        generalize secTo f j = S0 at *
        generalize pickZ (f j 0) 30 = PZ at *
        have jj : (j : Int) < (N : Int) := by omega
        have j0 : 0 ≤ (j : Int) := by omega
        obtain ⟨ra, rc, hrv, hrc1, hrc2⟩ := hO.shape
        subst hrv
        unfold maxLen at hrc2
        obtain ⟨L, hL1⟩ : ∃ L, L = (madeRecs f j).length := ⟨_, rfl⟩
        have HLen := Lib.hid hL1
        rw [← hL1] at hO hL hrc1 hml
        clear hL1
        have HLt : Hid (∀ g, (Value.slice ra L rc).ownBlock = some g → w.heap.size + 2 ≤ g ∧ g < wr.heap.size) := World.ownsRow.lt hO
        have hq1 := hL.c1
        have HQ : Hid (∀ W, wr.grownBy W (Value.slice ra L rc).ownBlock → W.cell? ⟨b, off + j * 5 + 1, none⟩ = some (.int .i64 (f j 1)) ∧ W.cell? ⟨b, off + j * 5 + 2, none⟩ = some (.int .i64 (f j 2)) ∧ W.cell? ⟨b, off + j * 5 + 3, none⟩ = some (.int .i64 (f j 3)) ∧ W.cell? ⟨b, off + j * 5 + 4, none⟩ = some (.int .i64 (f j 4)) ∧ W.cell? ⟨w.heap.size + 1, 1, none⟩ = some (.slice ra L rc)) := fun W hW => by
          have hb' : Below w.heap.size w W := hB.trans ((Below.refl _ _).grown hW hB.size (fun k hk => by have := (HLt.out k hk).1; omega))
          exact ⟨HC.out W hb' 1 (by omega), HC.out W hb' 2 (by omega), HC.out W hb' 3 (by omega), HC.out W hb' 4 (by omega), hW.cell hq1 (fun e => by have := (HLt.out _ e.symm).1; simp at this)⟩
        have HO := Lib.hid hO
        have HL := Lib.hid hL
        have HR := Lib.hid hR
        have HB := Lib.hid hB
        have hzB := hB.size
        clear hO hL hR hB
        go_wp2_with (go_at_call 38; refine (HPj.out _).mono ?_; rintro e w' ⟨rfl, rfl⟩)
        clear c0 hq1
        refine wp_region_calm ⟨[1, 24, 25, 26], MadeF wr.heap.size (w.heap.size + 2) (.slice ra L rc) (madeRecs f j) (madeRec f j), fun k => if k = 26 then [1] else [], 1, (Value.slice ra L rc).ownBlock, 28⟩ (by kernel_rfl) (by kernel_rfl) (by kernel_rfl) (fun g h => (HLt.out g h).2) (fun k hk v W W' c h hg hc => madeF_kept hk h hg fun g hh => (hc g hh).1) ?_
        iterate 1 (refine calm_quiet (v := ?_) (by rfl) (by rfl) (fun W hW hD => ?_) ?_; rotate_left; (· (obtain ⟨z0, z1, z2, z3, z4⟩ := HQ.out W hW; clear hD hW; go_simp; try with_reducible rfl)); simp only [Act.put, List.setIfInBounds_toArray, List.set_cons_zero, List.set_cons_succ, Nat.reduceAdd, Nat.zero_add])
        refine calm_makes (by rfl) (by rfl) (fun W hW hD K hK => ?_) (fun v30 => ?_)
        · have hWn : wr.grownBy W none := hW
          obtain ⟨z0, z1, z2, z3, z4⟩ := HQ.out W (grown_wide hWn _)
          refine wp_of_run (v := .slice ra L rc) (w' := W) ?_ (hK _ _ ⟨⟨rfl, rowG_kept HO.out hWn (fun g hg => by cases hg)⟩, ⟨none, World.grownBy.refl _ _, .inl rfl⟩, fun g hg => ⟨Nat.lt_of_lt_of_le (HLt.out g hg).2 hWn.size, .inr (.inr ⟨rfl, hg⟩)⟩⟩)
          clear hD hW hK hWn
          go_simp
        simp only [Act.put, List.setIfInBounds_toArray, List.set_cons_zero, List.set_cons_succ, Nat.reduceAdd, Nat.zero_add]
        iterate 22 (refine calm_quiet (v := ?_) (by rfl) (by rfl) (fun W hW hD => ?_) ?_; rotate_left; (· (obtain ⟨z0, z1, z2, z3, z4⟩ := HQ.out W hW; clear hD hW; go_simp; try with_reducible rfl)); simp only [Act.put, List.setIfInBounds_toArray, List.set_cons_zero, List.set_cons_succ, Nat.reduceAdd, Nat.zero_add])
        refine calm_makes (by rfl) (by rfl) (fun W hW hD K hK => ?_) (fun v53 => ?_)
        · refine wp_of_call (f := 39) ?_ ((HEn.out W).mono ?_)
          · clear hD hW hK
            go_simp
          · rintro e w5 ⟨rfl, hb5⟩
            exact ⟨_, rfl, hK _ _ (made_plain rfl hb5 rfl)⟩
        simp only [Act.put, List.setIfInBounds_toArray, List.set_cons_zero, List.set_cons_succ, Nat.reduceAdd, Nat.zero_add]
        refine calm_makes (by rfl) (by rfl) (fun W hW hD K hK => ?_) (fun v54 => ?_)
        · obtain rfl : v53 = recV (madeRec f j) := hD [] 24 (by kernel_rfl) (by kernel_rfl) (by kernel_rfl)
          have hWs := hW.size
          refine wp_of_run (v := .slice (some ⟨W.heap.size, 0, none⟩) 1 1) (w' := W.alloc (.cells #[.int .i64 (madeRec f j).sec, .int .i64 (madeRec f j).kind, .int .i64 (madeRec f j).a, .int .i64 (madeRec f j).b, .string (bs (madeRec f j).text)] 48)) ?_ (hK _ _ (made_below (OwnG.mono (ownG_lit1 W (madeRec f j)) hWs) ((Below.refl _ _).alloc (Nat.le_refl _) _) (World.ownsRow.lt (ownG_lit1 W (madeRec f j)))))
          clear hD hW hK
          generalize madeRec f j = X at *
          go_simp
        simp only [Act.put, List.setIfInBounds_toArray, List.set_cons_zero, List.set_cons_succ, Nat.reduceAdd, Nat.zero_add]
        refine calm_makes (by rfl) (by rfl) (fun W hW hD K hK => ?_) (fun v55 => ?_)
        · obtain ⟨h30, hrow⟩ : v30 = .slice ra L rc ∧ OwnG (w.heap.size + 2) W (.slice ra L rc) (madeRecs f j) := hD [] 1 (by kernel_rfl) (by kernel_rfl) (by kernel_rfl)
          subst h30
          have h25 : OwnG wr.heap.size W v54 [madeRec f j] := hD [] 25 (by kernel_rfl) (by kernel_rfl) (by kernel_rfl)
          have hWs := hW.size
          exact wp_append_G (.tmp 30) (.tmp 54) rfl (w.heap.size + 2) _ (.slice ra L rc) v54 (madeRecs f j) [madeRec f j] rfl rfl hrow h25.recs (by rw [← HLen.out]; simp; omega) (by omega) (fun v' w' h1 h2 h3 => hK _ _ (made_grown (j := 1) (u := .slice ra L rc) (by kernel_rfl) rfl h1 h2 (fun g hg => ⟨(World.ownsRow.lt h1 g hg).2, grown_own h3 hg⟩)))
        simp only [Act.put, List.setIfInBounds_toArray, List.set_cons_zero, List.set_cons_succ, Nat.reduceAdd, Nat.zero_add]
        iterate 1 (refine calm_quiet (v := ?_) (by rfl) (by rfl) (fun W hW hD => ?_) ?_; rotate_left; (· (obtain ⟨z0, z1, z2, z3, z4⟩ := HQ.out W hW; clear hD hW; go_simp; try with_reducible rfl)); simp only [Act.put, List.setIfInBounds_toArray, List.set_cons_zero, List.set_cons_succ, Nat.reduceAdd, Nat.zero_add])
        refine calm_tail (by rfl) fun W hW hF => ?_
        have h26 : OwnG (w.heap.size + 2) W v55 (madeRecs f j ++ [madeRec f j]) := hF 26 (by kernel_rfl) (by kernel_rfl)
        rw [← HMs1.out] at h26
        have hbW : Below (w.heap.size + 2) wr W := (Below.refl _ _).grown hW hz (fun k hk => (HLt.out k hk).1)
        obtain ⟨ya, yc, hv55, hy1, hy2⟩ := h26.shape
        subst hv55
        have hLW := HL.out.below hbW (by omega)
        have q1 := hLW.c1
        have qf := hLW.frozen 1
        have HSt := Lib.hid (show LogBox (W.setCell ⟨w.heap.size + 1, 1, none⟩ (.slice ya (madeRecs f (j + 1)).length yc)) (w.heap.size + 1) O (.slice ya (madeRecs f (j + 1)).length yc) from heap_set hLW 1 (.slice ya (madeRecs f (j + 1)).length yc))
        have HRs := Lib.hid ((heap_set_ne W (show w.heap.size ≠ w.heap.size + 1 by omega) 1 (.slice ya (madeRecs f (j + 1)).length yc)).trans (HR.out.below hbW (by omega)))
        have HOs := Lib.hid (h26.set hLW (by decide) 1 (.slice ya (madeRecs f (j + 1)).length yc))
        have HBs := Lib.hid ((HB.out.trans (hbW.mono (by omega))).setCell (p := ⟨w.heap.size + 1, 1, none⟩) (by simp) (.slice ya (madeRecs f (j + 1)).length yc))
        have hzW := hbW.size
        have hzs : (W.setCell ⟨w.heap.size + 1, 1, none⟩ (.slice ya (madeRecs f (j + 1)).length yc)).heap.size = W.heap.size := by simp [World.setCell]
        clear hF hW hbW h26 hLW
        go_wp2
        go_roundw
        case rel => exact ⟨j + 1, _, by omega, by omega, by go_num, by rw [HSj.out]; rfl, HRs.out, HSt.out, HOs.out, HBs.out, by omega⟩
        case measure => simp [intOf]; omega
      · obtain rfl : j = 12 := by omega
        have d1 : decide (((12 : Nat) : Int) < (N : Int)) = true := by simp; omega
        obtain ⟨ra, rc, hrv, hrc1, hrc2⟩ := hO.shape
        have hMin : min N 12 = 12 := by omega
        have HE : Hid (madeBook o N f = ⟨O, madeRecs f 12⟩) := by show _ = _; rw [HMk.out, hMin]
        have HO := Lib.hid hO
        generalize madeRecs f 12 = RS at *
        subst hrv
        have q0 := hL.c0
        have q1 := hL.c1
        have r0 := hR.c0
        have r1 := hR.c1
        have rf := hR.frozen
        have hne : w.heap.size + 1 ≠ w.heap.size := by omega
        have HSet := Lib.hid (hR.set O (.slice ra RS.length rc))
        have HOs := Lib.hid ((hO.set hR (by decide) 0 (.int .i64 O)).set (heap_set hR 0 (.int .i64 O)) (by decide) 1 (.slice ra RS.length rc))
        have HBs := Lib.hid ((hB.setCell (p := ⟨w.heap.size, 0, none⟩) (Nat.le_refl _) (.int .i64 O)).setCell (p := ⟨w.heap.size, 1, none⟩) (Nat.le_refl _) (.slice ra RS.length rc))
        clear hO hL hR hB hMin
        go_wp2
        have hE := HSet.out
        exact bodyPost_ret (v := bookV O (.slice ra RS.length rc)) (by simp [results, Tryz.results7, go_sem, hE.c0, hE.c1]) rfl ⟨_, by rw [HE.out], by rw [HE.out]; exact HOs.out.mono (by omega), HBs.out⟩
    · obtain rfl : j = N := by omega
      have d1 : decide ((j : Int) < (j : Int)) = false := by simp
      obtain ⟨ra, rc, hrv, hrc1, hrc2⟩ := hO.shape
      have hMin : min j 12 = j := by omega
      have HE : Hid (madeBook o j f = ⟨O, madeRecs f j⟩) := by show _ = _; rw [HMk.out, hMin]
      have HO := Lib.hid hO
      generalize madeRecs f j = RS at *
      subst hrv
      have q0 := hL.c0
      have q1 := hL.c1
      have r0 := hR.c0
      have r1 := hR.c1
      have rf := hR.frozen
      have hne : w.heap.size + 1 ≠ w.heap.size := by omega
      have HSet := Lib.hid (hR.set O (.slice ra RS.length rc))
      have HOs := Lib.hid ((hO.set hR (by decide) 0 (.int .i64 O)).set (heap_set hR 0 (.int .i64 O)) (by decide) 1 (.slice ra RS.length rc))
      have HBs := Lib.hid ((hB.setCell (p := ⟨w.heap.size, 0, none⟩) (Nat.le_refl _) (.int .i64 O)).setCell (p := ⟨w.heap.size, 1, none⟩) (Nat.le_refl _) (.slice ra RS.length rc))
      clear hO hL hR hB hMin
      go_wp2
      have hE := HSet.out
      exact bodyPost_ret (v := bookV O (.slice ra RS.length rc)) (by simp [results, Tryz.results7, go_sem, hE.c0, hE.c1]) rfl ⟨_, by rw [HE.out], by rw [HE.out]; exact HOs.out.mono (by omega), HBs.out⟩
end Go.Proofs.YthfenbdlolbikaaGreatDoor
end

section
/- A world that goes on, with facts that are kept. -/
namespace Go.Proofs.YthfenbdlolbikaaGreatDoor
open Go.RowKit Go.Shelf

/-- The world has gone on from w0; these facts hold from now on. -/
def LiveP (w0 : World) (Ps : List (World → Prop)) (W : World) : Prop := Below w0.heap.size w0 W ∧ Rounds W ∧ ∀ P ∈ Ps, ∀ W', Below W.heap.size W W' → P W'
theorem LiveP.start {w : World} (hT : Rounds w) : LiveP w [] w := ⟨Below.refl _ _, hT, fun _ h => by cases h⟩
theorem LiveP.step {w0 W W' : World} {Ps : List (World → Prop)} (h : LiveP w0 Ps W) (hb : Below W.heap.size W W') : LiveP w0 Ps W' :=
  ⟨h.1.trans (hb.mono h.1.size), h.2.1.below hb (Nat.le_refl _), fun P hP W2 hb2 => h.2.2 P hP W2 (hb.trans (hb2.mono hb.size))⟩
theorem LiveP.add {w0 W : World} {Ps : List (World → Prop)} {P : World → Prop} (h : LiveP w0 Ps W) (hP : ∀ W', Below W.heap.size W W' → P W') : LiveP w0 (P :: Ps) W :=
  ⟨h.1, h.2.1, fun Q hQ => by
    rcases List.mem_cons.1 hQ with rfl | hQ
    · exact hP
    · exact h.2.2 Q hQ⟩
theorem LiveP.get {w0 W : World} {Ps : List (World → Prop)} {P : World → Prop} (h : LiveP w0 Ps W) (hP : P ∈ Ps) : P W := h.2.2 P hP W (Below.refl _ _)
theorem LiveP.alloc {w0 W : World} {Ps : List (World → Prop)} (h : LiveP w0 Ps W) (o : Obj) : LiveP w0 Ps (W.alloc o) := h.step ((Below.refl _ _).alloc (Nat.le_refl _) o)
theorem LiveP.drew {w0 W : World} {Ps : List (World → Prop)} (h : LiveP w0 Ps W) : LiveP w0 Ps W.drew := h.step (Below.refl _ _).drew
theorem LiveP.rounds {w0 W : World} {Ps : List (World → Prop)} (h : LiveP w0 Ps W) : Rounds W := h.2.1
theorem LiveP.below {w0 W : World} {Ps : List (World → Prop)} (h : LiveP w0 Ps W) : Below w0.heap.size w0 W := h.1
/-- The facts that are kept. -/
def StrsN (v : Value) (l : List Bytes) (W : World) : Prop := StrsAt W.heap.size W v l
def RecsN (v : Value) (l : List LRec) (W : World) : Prop := RecsAt W.heap.size W v l
def BookN (n : Nat) (o : Int) (rv : Value) (W : World) : Prop := LogBox W n o rv
def RecN (n : Nat) (x : LRec) (W : World) : Prop := RecBox W n x
def OwnsN (b : Nat) (v : Value) (l : List Bytes) (W : World) : Prop := OwnS b W v l
def OwnrN (b : Nat) (v : Value) (l : List LRec) (W : World) : Prop := OwnG b W v l
theorem keep_strs {W : World} {v : Value} {l : List Bytes} (h : StrsAt W.heap.size W v l) : ∀ W', Below W.heap.size W W' → StrsN v l W' := fun _ hb => h.later hb (Nat.le_refl _)
theorem keep_recs {W : World} {v : Value} {l : List LRec} (h : RecsAt W.heap.size W v l) : ∀ W', Below W.heap.size W W' → RecsN v l W' := fun _ hb => h.later hb (Nat.le_refl _)
theorem keep_book {W : World} {n : Nat} {o : Int} {rv : Value} (h : LogBox W n o rv) : ∀ W', Below W.heap.size W W' → BookN n o rv W' := fun _ hb => h.below hb h.lt
theorem keep_rec {W : World} {n : Nat} {x : LRec} (h : RecBox W n x) : ∀ W', Below W.heap.size W W' → RecN n x W' := fun _ hb => h.below hb h.lt
theorem keep_owns {W : World} {b : Nat} {v : Value} {l : List Bytes} (h : OwnS b W v l) : ∀ W', Below W.heap.size W W' → OwnsN b v l W' := fun _ hb => h.below hb (Nat.le_refl _)
theorem keep_ownr {W : World} {b : Nat} {v : Value} {l : List LRec} (h : OwnG b W v l) : ∀ W', Below W.heap.size W W' → OwnrN b v l W' := fun _ hb => h.below hb (Nat.le_refl _)
/-- The cells of the record at a place of a slice. -/
theorem RecsN.cells {W : World} {b off n c : Nat} {l : List LRec} (h : RecsN (.slice (some ⟨b, off, none⟩) n c) l W) (i : Nat) (hi : i < l.length) : RecAt W b (off + i * 5) (l.getD i default) := by
  obtain ⟨b', off', ha, _, hc⟩ := (show RecsAt W.heap.size W _ l from h).at i hi
  cases ha
  exact hc
end Go.Proofs.YthfenbdlolbikaaGreatDoor
end

section
/- sane of the statements on logbook: what it computes. -/
namespace Go.Proofs.YthfenbdlolbikaaGreatDoor

def sx0 : LRec := ⟨10, 1, 7, -1, [110, 101, 119, 115]⟩
def sx1 : LRec := ⟨20, 2, 0, 5, []⟩
def sx2 : LRec := ⟨20, 1, 8, -1, []⟩
def sx3 : LRec := ⟨20, 3, 0, 0, []⟩
def sx4 : LRec := ⟨19, 1, 0, 0, []⟩
def sL : List LRec := [sx0, sx1, sx2]
def sM : List LRec := [sx0, sx1, sx2, sx3]
def sEnc : Bytes := [20, 2, 14, 1, 8, 110, 101, 119, 115]
def sRoot : Bytes := (headE ⟨4, sL⟩).1
def sNext : Bytes := (headE ⟨4, sM⟩).1
def sTag : Bytes := (signE (keyB 1) ⟨4, sL⟩).1
def sP : List Bytes := (proveE ⟨4, sL⟩ 1).1
def sQ : List Bytes := (grownE ⟨4, sM⟩ 3).1
theorem sane_enc : encE sx0 = (sEnc, 0) := by decide +kernel
theorem sane_dec : decE sEnc = (sx0, 0) := by decide +kernel
theorem sane_head : (headE ⟨4, sL⟩).2 = 0 := by decide +kernel
theorem sane_prove : (proveE ⟨4, sL⟩ 1).2 = 0 := by decide +kernel
theorem sane_add1 : addE ⟨4, sL⟩ sx4 = (⟨0, []⟩, 380) := by decide +kernel
theorem sane_add2 : addE ⟨4, sL⟩ sx3 = (⟨4, sM⟩, 0) := by decide +kernel
theorem sane_grown : (grownE ⟨4, sM⟩ 3).2 = 0 := by decide +kernel
theorem sane_next : (headE ⟨4, sM⟩).2 = 0 := by decide +kernel
theorem sane_sign : (signE (keyB 1) ⟨4, sL⟩).2 = 0 := by decide +kernel
theorem sane_lens : sP.length ≤ 10 ∧ sQ.length ≤ 10 ∧ sRoot.length = 32 ∧ sNext.length = 32 := by decide +kernel
theorem sane_c1 : checkB sRoot 3 1 sx1 sP = true := by decide +kernel
theorem sane_c2 : checkB sRoot 3 0 sx1 sP = false := by decide +kernel
theorem sane_g1 : verExtB sRoot 3 sNext 4 sQ = true := by decide +kernel
theorem sane_g2 : verExtB sNext 3 sRoot 4 sQ = false := by decide +kernel
theorem sane_s1 : genB (keyB 1) 4 3 sRoot sTag = true := by decide +kernel
theorem sane_s2 : genB (keyB 1) 5 3 sRoot sTag = false := by decide +kernel
theorem sane_s3 : genB (keyB 1) 4 3 sNext sTag = false := by decide +kernel
theorem sane_f1 : findB ⟨4, sL⟩ 1 9 = -1 := by decide +kernel
theorem sane_f2 : findB ⟨4, sL⟩ 1 19 = 0 := by decide +kernel
theorem sane_f3 : findB ⟨4, sL⟩ 1 20 = 2 := by decide +kernel
theorem sane_b1 : bookB ⟨4, sL⟩ = true := by decide +kernel
theorem sane_b2 : bookB ⟨100, []⟩ = false := by decide +kernel
end Go.Proofs.YthfenbdlolbikaaGreatDoor
end

section
/- sane of the statements on logbook returns true. -/
namespace Go.Proofs.YthfenbdlolbikaaGreatDoor
open Go.RowKit Go.Shelf

theorem ownG_lit {base : Nat} (W : World) (l : List LRec) (n : Nat) (hn : n = l.length) (cs : Array Value) (hcs : cs.toList = cellsG l) (hb : base ≤ W.heap.size) (hl : n ≤ 1000) : OwnG base (W.alloc (.cells cs 48)) (.slice (some ⟨W.heap.size, 0, none⟩) n n) l := by
  subst hn
  refine ⟨cellsG_length l, .inr ⟨W.heap.size, l.length, cs, rfl, hb, heap_alloc_new W _, Nat.le_refl _, by unfold maxLen; omega, ?_, ?_⟩⟩
  · rw [← Array.length_toList, hcs, cellsG_length]
  · rw [hcs, List.take_of_length_le (by rw [cellsG_length]; exact Nat.le_refl _)]
set_option maxRecDepth 100000 in
set_option maxHeartbeats 1000000 in
theorem example_any (w : World) :
    Calls Tryz.prog 32 #[] w fun e w' => ∃ g, e = .returned (bookV 4 (.slice (some ⟨g, 0, none⟩) 3 3)) ∧ OwnG w.heap.size w' (.slice (some ⟨g, 0, none⟩) 3 3) sL ∧ Below w.heap.size w w' := by
  have hb0 : Below w.heap.size w ((w.alloc (.cells #[.int .i64 4, .slice (some ⟨w.heap.size + 1, 0, none⟩) 3 3] 25)).alloc (.cells #[.int .i64 10, .int .i64 1, .int .i64 7, .int .i64 (-1), .string (⟨#[110, 101, 119, 115]⟩ : ByteArray), .int .i64 20, .int .i64 2, .int .i64 0, .int .i64 5, .string (⟨#[]⟩ : ByteArray), .int .i64 20, .int .i64 1, .int .i64 8, .int .i64 (-1), .string (⟨#[]⟩ : ByteArray)] 48)) := ((Below.refl _ _).alloc (Nat.le_refl _) _).alloc (by simp) _
  have ho0 := ownG_lit (base := w.heap.size) (w.alloc (.cells #[.int .i64 4, .slice (some ⟨w.heap.size + 1, 0, none⟩) 3 3] 25)) sL 3 rfl #[.int .i64 10, .int .i64 1, .int .i64 7, .int .i64 (-1), .string (⟨#[110, 101, 119, 115]⟩ : ByteArray), .int .i64 20, .int .i64 2, .int .i64 0, .int .i64 5, .string (⟨#[]⟩ : ByteArray), .int .i64 20, .int .i64 1, .int .i64 8, .int .i64 (-1), .string (⟨#[]⟩ : ByteArray)] rfl (by simp) (by omega)
  have hl0 := (logBox_new w 4 (.slice (some ⟨w.heap.size + 1, 0, none⟩) 3 3)).below ((Below.refl (w.heap.size + 1) (w.alloc (.cells #[.int .i64 4, .slice (some ⟨w.heap.size + 1, 0, none⟩) 3 3] 25))).alloc (by simp) (.cells #[.int .i64 10, .int .i64 1, .int .i64 7, .int .i64 (-1), .string (⟨#[110, 101, 119, 115]⟩ : ByteArray), .int .i64 20, .int .i64 2, .int .i64 0, .int .i64 5, .string (⟨#[]⟩ : ByteArray), .int .i64 20, .int .i64 1, .int .i64 8, .int .i64 (-1), .string (⟨#[]⟩ : ByteArray)] 48)) (by omega)
  rw [World.size_alloc] at ho0
  have HB := Lib.hid hb0
  have HO := Lib.hid ho0
  have HL := Lib.hid hl0
  clear hb0 ho0 hl0
  go_enter Tryz.func32, Tryz.ntmps32
  go_wp2
  have hE := HL.out
  exact bodyPost_ret (v := bookV 4 (.slice (some ⟨w.heap.size + 1, 0, none⟩) 3 3)) (by simp [results, Tryz.results32, go_sem, hE.c0, hE.c1]) rfl ⟨_, rfl, HO.out, HB.out⟩
theorem sane_all : ∃ (R N T K : Bytes) (Pf Q : List Bytes), headE ⟨4, sL⟩ = (R, 0) ∧ headE ⟨4, sM⟩ = (N, 0) ∧ keyB 1 = K ∧ signE K ⟨4, sL⟩ = (T, 0) ∧ proveE ⟨4, sL⟩ 1 = (Pf, 0) ∧ grownE ⟨4, sM⟩ 3 = (Q, 0) ∧ Pf.length ≤ 10 ∧ Q.length ≤ 10 ∧ K.length = 32 ∧
    checkB R 3 1 sx1 Pf = true ∧ checkB R 3 0 sx1 Pf = false ∧ verExtB R 3 N 4 Q = true ∧ verExtB N 3 R 4 Q = false ∧ genB K 4 3 R T = true ∧ genB K 5 3 R T = false ∧ genB K 4 3 N T = false :=
  ⟨sRoot, sNext, sTag, keyB 1, sP, sQ, Prod.ext rfl sane_head, Prod.ext rfl sane_next, rfl, Prod.ext rfl sane_sign, Prod.ext rfl sane_prove, Prod.ext rfl sane_grown, sane_lens.1, sane_lens.2.1, keyB_length 1, sane_c1, sane_c2, sane_g1, sane_g2, sane_s1, sane_s2, sane_s3⟩
/-- The cells that sane reads. -/
theorem sane_cells {W : World} {B g : Nat} (h1 : BookN B 4 (.slice (some ⟨g, 0, none⟩) 3 3) W) (h2 : RecsN (.slice (some ⟨g, 0, none⟩) 3 3) sL W) :
    W.cell? ⟨B, 0, none⟩ = some (.int .i64 4) ∧ W.cell? ⟨B, 1, none⟩ = some (.slice (some ⟨g, 0, none⟩) 3 3) ∧
    W.cell? ⟨g, 0, none⟩ = some (.int .i64 10) ∧ W.cell? ⟨g, 1, none⟩ = some (.int .i64 1) ∧ W.cell? ⟨g, 2, none⟩ = some (.int .i64 7) ∧ W.cell? ⟨g, 3, none⟩ = some (.int .i64 (-1)) ∧ W.cell? ⟨g, 4, none⟩ = some (.string (⟨#[110, 101, 119, 115]⟩ : ByteArray)) ∧
    W.cell? ⟨g, 5, none⟩ = some (.int .i64 20) ∧ W.cell? ⟨g, 6, none⟩ = some (.int .i64 2) ∧ W.cell? ⟨g, 7, none⟩ = some (.int .i64 0) ∧ W.cell? ⟨g, 8, none⟩ = some (.int .i64 5) ∧ W.cell? ⟨g, 9, none⟩ = some (.string (⟨#[]⟩ : ByteArray)) := by
  have h0 := h2.cells 0 (by decide)
  have h5 := h2.cells 1 (by decide)
  exact ⟨h1.c0, h1.c1, h0.1, h0.2.1, h0.2.2.1, h0.2.2.2.1, h0.2.2.2.2, h5.1, h5.2.1, h5.2.2.1, h5.2.2.2.1, h5.2.2.2.2⟩
set_option maxRecDepth 100000 in
set_option maxHeartbeats 8000000 in
theorem gsane_any (w : World) (hT : Rounds w) :
    Calls Tryz.prog 5 #[] w fun e w' => e = .returned (.bool true) ∧ Below w.heap.size w w' := by
  have HT := Lib.hid (LiveP.start hT)
  have HEnc := Lib.hid sane_enc
  have HDec := Lib.hid sane_dec
  obtain ⟨R, N, T, K, Pf, Q, q1, q2, q3, q4, q5, q6, q7, q8, q9, q10, q11, q12, q13, q14, q15, q16⟩ := sane_all
  have HHead := Lib.hid q1
  have HNext := Lib.hid q2
  have HKey := Lib.hid q3
  have HSign := Lib.hid q4
  have HProve := Lib.hid q5
  have HGrown := Lib.hid q6
  have HK32 := Lib.hid q9
  have HC1 := Lib.hid q10
  have HC2 := Lib.hid q11
  have HG1 := Lib.hid q12
  have HG2 := Lib.hid q13
  have HS1 := Lib.hid q14
  have HS2 := Lib.hid q15
  have HS3 := Lib.hid q16
  have HAdd1 := Lib.hid sane_add1
  have HAdd2 := Lib.hid sane_add2
  have HF1 := Lib.hid sane_f1
  have HF2 := Lib.hid sane_f2
  have HF3 := Lib.hid sane_f3
  have HB1 := Lib.hid sane_b1
  have HB2 := Lib.hid sane_b2
  clear q1 q2 q3 q4 q5 q6 q9 q10 q11 q12 q13 q14 q15 q16
  clear hT
  go_enter Tryz.func5, Tryz.ntmps5
  go_wp2_with fail
  refine (example_any w).mono ?_
  rintro e w1 ⟨g, rfl, hO, hb⟩
  have hL := ((HT.out.step hb).alloc (.cells #[.int .i64 4, .slice (some ⟨g, 0, none⟩) 3 3] 25)).add (keep_book (logBox_new w1 4 (.slice (some ⟨g, 0, none⟩) 3 3)))
  replace hL := hL.add (keep_recs ((hO.below (B := w1.heap.size) ((Below.refl _ _).alloc (Nat.le_refl _) _) (Nat.le_refl _)).recs))
  obtain ⟨B, hB⟩ : ∃ B, B = w1.heap.size := ⟨_, rfl⟩
  rw [← hB] at hL
  obtain ⟨a0, a1, a2, a3, a4, a5, a6, a7, a8, a9, a10, a11⟩ := sane_cells (B := B) (g := g) (hL.get (by simp)) (hL.get (by simp))
  have HL := Lib.hid hL
  clear hL hb hO
  rw [hB] at a0 a1
  go_wp2_with fail
  have hstr : Hid (bs sEnc = (⟨#[20, 2, 14, 1, 8, 110, 101, 119, 115]⟩ : ByteArray)) := rfl
  refine (encode_any sx0 _).mono ?_
  rintro e w2 ⟨rfl, hb⟩
  rw [HEnc.out]
  simp only
  have HL2 := Lib.hid (HL.out.step hb)
  clear a0 a1 a2 a3 a4 a5 a6 a7 a8 a9 a10 a11
  clear hb
  rw [hstr.out]
  go_wp2_with fail
  refine (decode_any _ w2 (by decide)).mono ?_
  rintro e w3 ⟨rfl, hb⟩
  rw [show (⟨#[20, 2, 14, 1, 8, 110, 101, 119, 115]⟩ : ByteArray).data.toList = sEnc from rfl, HDec.out]
  rw [show recV (sx0, (0 : Int)).1 = .agg #[.int .i64 10, .int .i64 1, .int .i64 7, .int .i64 (-1), .string (⟨#[110, 101, 119, 115]⟩ : ByteArray)] from rfl]
  simp only
  have hL3 := ((HL2.out.step hb).alloc (.cells #[.int .i64 10, .int .i64 1, .int .i64 7, .int .i64 (-1), .string (⟨#[110, 101, 119, 115]⟩ : ByteArray)] 48)).add (keep_rec (recBox_new w3 sx0))
  obtain ⟨a0, a1, a2, a3, a4, a5, a6, a7, a8, a9, a10, a11⟩ := sane_cells (B := B) (g := g) (hL3.get (by simp)) (hL3.get (by simp))
  have HL3 := Lib.hid hL3
  rw [hB] at a0 a1
  clear hb hL3 HL HL2
  go_wp2_with fail
  refine (head_any 4 _ sL _ (show RecsN _ _ _ from HL3.out.get (by simp)) (by decide) HL3.out.rounds).mono ?_
  rintro e w4 ⟨rfl, hb⟩
  rw [HHead.out]
  simp only
  have hL := HL3.out.step hb
  clear a0 a1 a2 a3 a4 a5 a6 a7 a8 a9 a10 a11
  obtain ⟨a0, a1, a2, a3, a4, a5, a6, a7, a8, a9, a10, a11⟩ := sane_cells (B := B) (g := g) (hL.get (by simp)) (hL.get (by simp))
  have HL4 := Lib.hid hL
  rw [hB] at a0 a1
  clear hb hL HL3
  go_wp2_with fail
  refine (prove_any 4 _ sL 1 _ (show RecsN _ _ _ from HL4.out.get (by simp)) (by decide) HL4.out.rounds).mono ?_
  rintro e w5 ⟨vp, rfl, hO, hb⟩
  rw [HProve.out] at hO ⊢
  simp only at hO ⊢
  obtain ⟨pa, pc, hvp, _, _⟩ := hO.shape2
  subst hvp
  have hL := (HL4.out.step hb).add (keep_strs hO.strs)
  clear a0 a1 a2 a3 a4 a5 a6 a7 a8 a9 a10 a11
  obtain ⟨a0, a1, a2, a3, a4, a5, a6, a7, a8, a9, a10, a11⟩ := sane_cells (B := B) (g := g) (hL.get (by simp)) (hL.get (by simp))
  have HL5 := Lib.hid hL
  rw [hB] at a0 a1
  clear hb hL HL4 hO
  go_wp2_with fail
  refine (gadd_any 4 _ sL sx4 _ (show RecsN _ _ _ from HL5.out.get (by simp)) (by decide)).mono ?_
  rintro e w6 ⟨r6, rfl, hO, hb⟩
  rw [HAdd1.out] at hO ⊢
  simp only at hO ⊢
  obtain ⟨ra, rc, hr6, _, _⟩ := hO.shape
  subst hr6
  have hL := (HL5.out.step hb).alloc (.cells #[.int .i64 0, .slice ra 0 rc] 25)
  clear a0 a1 a2 a3 a4 a5 a6 a7 a8 a9 a10 a11
  obtain ⟨a0, a1, a2, a3, a4, a5, a6, a7, a8, a9, a10, a11⟩ := sane_cells (B := B) (g := g) (hL.get (by simp)) (hL.get (by simp))
  have HL6 := Lib.hid hL
  rw [hB] at a0 a1
  clear hb hL HL5 hO
  go_wp2_with fail
  refine (gadd_any 4 _ sL sx3 _ (show RecsN _ _ _ from HL6.out.get (by simp)) (by decide)).mono ?_
  rintro e w7 ⟨r7, rfl, hO, hb⟩
  rw [HAdd2.out] at hO ⊢
  simp only at hO ⊢
  obtain ⟨ma, mc, hr7, _, _⟩ := hO.shape
  subst hr7
  rw [show sM.length = 4 from rfl] at hO ⊢
  have hL := (((HL6.out.step hb).add (keep_recs hO.recs)).alloc (.cells #[.int .i64 4, .slice ma 4 mc] 25)).add (keep_book (logBox_new w7 4 (.slice ma 4 mc)))
  obtain ⟨M, hM⟩ : ∃ M, M = w7.heap.size := ⟨_, rfl⟩
  rw [← hM] at hL
  clear a0 a1 a2 a3 a4 a5 a6 a7 a8 a9 a10 a11
  obtain ⟨a0, a1, a2, a3, a4, a5, a6, a7, a8, a9, a10, a11⟩ := sane_cells (B := B) (g := g) (hL.get (by simp)) (hL.get (by simp))
  have m0 := (show BookN M 4 (.slice ma 4 mc) _ from hL.get (by simp)).c0
  have m1 := (show BookN M 4 (.slice ma 4 mc) _ from hL.get (by simp)).c1
  rw [hM] at m0 m1
  have HL7 := Lib.hid hL
  rw [hB] at a0 a1
  clear hb hL HL6 hO
  go_wp2_with fail
  refine (grown_any 4 _ sM 3 _ (show RecsN _ _ _ from HL7.out.get (by simp)) (by decide) HL7.out.rounds).mono ?_
  rintro e w8 ⟨vq, rfl, hO, hb⟩
  rw [HGrown.out] at hO ⊢
  simp only at hO ⊢
  obtain ⟨qa, qc, hvq, _, _⟩ := hO.shape2
  subst hvq
  have hL := (HL7.out.step hb).add (keep_strs hO.strs)
  clear a0 a1 a2 a3 a4 a5 a6 a7 a8 a9 a10 a11 m0 m1
  obtain ⟨a0, a1, a2, a3, a4, a5, a6, a7, a8, a9, a10, a11⟩ := sane_cells (B := B) (g := g) (hL.get (by simp)) (hL.get (by simp))
  have m0 := (show BookN M 4 (.slice ma 4 mc) _ from hL.get (by simp)).c0
  have m1 := (show BookN M 4 (.slice ma 4 mc) _ from hL.get (by simp)).c1
  rw [hM] at m0 m1
  have HL8 := Lib.hid hL
  rw [hB] at a0 a1
  clear hb hL HL7
  clear hO
  go_wp2_with fail
  refine (head_any 4 _ sM _ (show RecsN _ _ _ from HL8.out.get (by simp)) (by decide) HL8.out.rounds).mono ?_
  rintro e w9 ⟨rfl, hb⟩
  rw [HNext.out]
  simp only
  have hL := HL8.out.step hb
  clear a0 a1 a2 a3 a4 a5 a6 a7 a8 a9 a10 a11 m0 m1
  obtain ⟨a0, a1, a2, a3, a4, a5, a6, a7, a8, a9, a10, a11⟩ := sane_cells (B := B) (g := g) (hL.get (by simp)) (hL.get (by simp))
  have m0 := (show BookN M 4 (.slice ma 4 mc) _ from hL.get (by simp)).c0
  have m1 := (show BookN M 4 (.slice ma 4 mc) _ from hL.get (by simp)).c1
  rw [hM] at m0 m1
  have HL9 := Lib.hid hL
  rw [hB] at a0 a1
  clear hb hL HL8
  go_wp2_with fail
  refine (key_any 1 _ (by decide) (by decide)).mono ?_
  rintro e w10 ⟨rfl, hb⟩
  rw [HKey.out]
  have hL := HL9.out.step hb
  clear a0 a1 a2 a3 a4 a5 a6 a7 a8 a9 a10 a11 m0 m1
  obtain ⟨a0, a1, a2, a3, a4, a5, a6, a7, a8, a9, a10, a11⟩ := sane_cells (B := B) (g := g) (hL.get (by simp)) (hL.get (by simp))
  have m0 := (show BookN M 4 (.slice ma 4 mc) _ from hL.get (by simp)).c0
  have m1 := (show BookN M 4 (.slice ma 4 mc) _ from hL.get (by simp)).c1
  rw [hM] at m0 m1
  have HL10 := Lib.hid hL
  rw [hB] at a0 a1
  clear hb hL HL9
  go_wp2_with fail
  refine (sign_any K 4 _ sL _ (show RecsN _ _ _ from HL10.out.get (by simp)) (by decide) (by rw [HK32.out]; decide) HL10.out.rounds).mono ?_
  rintro e w11 ⟨rfl, hb⟩
  rw [HSign.out]
  simp only
  have hL := HL10.out.step hb
  clear a0 a1 a2 a3 a4 a5 a6 a7 a8 a9 a10 a11 m0 m1
  obtain ⟨a0, a1, a2, a3, a4, a5, a6, a7, a8, a9, a10, a11⟩ := sane_cells (B := B) (g := g) (hL.get (by simp)) (hL.get (by simp))
  have m0 := (show BookN M 4 (.slice ma 4 mc) _ from hL.get (by simp)).c0
  have m1 := (show BookN M 4 (.slice ma 4 mc) _ from hL.get (by simp)).c1
  rw [hM] at m0 m1
  have HL11 := Lib.hid hL
  rw [hB] at a0 a1
  clear hb hL HL10
  go_wp2_with fail
  refine (gcheck_any R 3 1 sx1 _ Pf w11 (by decide) (by decide) (show StrsN (.slice pa Pf.length pc) Pf _ from HL11.out.get (by simp)) (by omega) HL11.out.rounds).mono ?_
  rintro e w12 ⟨rfl, hb⟩
  rw [HC1.out]
  have hL := HL11.out.step hb
  clear a0 a1 a2 a3 a4 a5 a6 a7 a8 a9 a10 a11 m0 m1
  obtain ⟨a0, a1, a2, a3, a4, a5, a6, a7, a8, a9, a10, a11⟩ := sane_cells (B := B) (g := g) (hL.get (by simp)) (hL.get (by simp))
  have m0 := (show BookN M 4 (.slice ma 4 mc) _ from hL.get (by simp)).c0
  have m1 := (show BookN M 4 (.slice ma 4 mc) _ from hL.get (by simp)).c1
  rw [hM] at m0 m1
  have HL12 := Lib.hid hL
  rw [hB] at a0 a1
  clear hb hL HL11
  go_wp2_with fail
  refine (gcheck_any R 3 0 sx1 _ Pf w12 (by decide) (by decide) (show StrsN (.slice pa Pf.length pc) Pf _ from HL12.out.get (by simp)) (by omega) HL12.out.rounds).mono ?_
  rintro e w13 ⟨rfl, hb⟩
  rw [HC2.out]
  have hL := HL12.out.step hb
  clear a0 a1 a2 a3 a4 a5 a6 a7 a8 a9 a10 a11 m0 m1
  obtain ⟨a0, a1, a2, a3, a4, a5, a6, a7, a8, a9, a10, a11⟩ := sane_cells (B := B) (g := g) (hL.get (by simp)) (hL.get (by simp))
  have m0 := (show BookN M 4 (.slice ma 4 mc) _ from hL.get (by simp)).c0
  have m1 := (show BookN M 4 (.slice ma 4 mc) _ from hL.get (by simp)).c1
  rw [hM] at m0 m1
  have HL13 := Lib.hid hL
  rw [hB] at a0 a1
  clear hb hL HL12
  go_wp2_with fail
  refine (checkGrown_any R 3 N 4 _ Q w13 (by decide) (by decide) (show StrsN (.slice qa Q.length qc) Q _ from HL13.out.get (by simp)) (by omega) HL13.out.rounds).mono ?_
  rintro e w14 ⟨rfl, hb⟩
  rw [HG1.out]
  have hL := HL13.out.step hb
  clear a0 a1 a2 a3 a4 a5 a6 a7 a8 a9 a10 a11 m0 m1
  obtain ⟨a0, a1, a2, a3, a4, a5, a6, a7, a8, a9, a10, a11⟩ := sane_cells (B := B) (g := g) (hL.get (by simp)) (hL.get (by simp))
  have m0 := (show BookN M 4 (.slice ma 4 mc) _ from hL.get (by simp)).c0
  have m1 := (show BookN M 4 (.slice ma 4 mc) _ from hL.get (by simp)).c1
  rw [hM] at m0 m1
  have HL14 := Lib.hid hL
  rw [hB] at a0 a1
  clear hb hL HL13
  go_wp2_with fail
  refine (checkGrown_any N 3 R 4 _ Q w14 (by decide) (by decide) (show StrsN (.slice qa Q.length qc) Q _ from HL14.out.get (by simp)) (by omega) HL14.out.rounds).mono ?_
  rintro e w15 ⟨rfl, hb⟩
  rw [HG2.out]
  have hL := HL14.out.step hb
  clear a0 a1 a2 a3 a4 a5 a6 a7 a8 a9 a10 a11 m0 m1
  obtain ⟨a0, a1, a2, a3, a4, a5, a6, a7, a8, a9, a10, a11⟩ := sane_cells (B := B) (g := g) (hL.get (by simp)) (hL.get (by simp))
  have m0 := (show BookN M 4 (.slice ma 4 mc) _ from hL.get (by simp)).c0
  have m1 := (show BookN M 4 (.slice ma 4 mc) _ from hL.get (by simp)).c1
  rw [hM] at m0 m1
  have HL15 := Lib.hid hL
  rw [hB] at a0 a1
  clear hb hL HL14
  go_wp2_with fail
  refine (genuine_any K 4 3 R T w15 HL15.out.rounds).mono ?_
  rintro e w16 ⟨rfl, hb⟩
  rw [HS1.out]
  have hL := HL15.out.step hb
  clear a0 a1 a2 a3 a4 a5 a6 a7 a8 a9 a10 a11 m0 m1
  obtain ⟨a0, a1, a2, a3, a4, a5, a6, a7, a8, a9, a10, a11⟩ := sane_cells (B := B) (g := g) (hL.get (by simp)) (hL.get (by simp))
  have m0 := (show BookN M 4 (.slice ma 4 mc) _ from hL.get (by simp)).c0
  have m1 := (show BookN M 4 (.slice ma 4 mc) _ from hL.get (by simp)).c1
  rw [hM] at m0 m1
  have HL16 := Lib.hid hL
  rw [hB] at a0 a1
  clear hb hL HL15
  go_wp2_with fail
  refine (genuine_any K 5 3 R T w16 HL16.out.rounds).mono ?_
  rintro e w17 ⟨rfl, hb⟩
  rw [HS2.out]
  have hL := HL16.out.step hb
  clear a0 a1 a2 a3 a4 a5 a6 a7 a8 a9 a10 a11 m0 m1
  obtain ⟨a0, a1, a2, a3, a4, a5, a6, a7, a8, a9, a10, a11⟩ := sane_cells (B := B) (g := g) (hL.get (by simp)) (hL.get (by simp))
  have m0 := (show BookN M 4 (.slice ma 4 mc) _ from hL.get (by simp)).c0
  have m1 := (show BookN M 4 (.slice ma 4 mc) _ from hL.get (by simp)).c1
  rw [hM] at m0 m1
  have HL17 := Lib.hid hL
  rw [hB] at a0 a1
  clear hb hL HL16
  go_wp2_with fail
  refine (genuine_any K 4 3 N T w17 HL17.out.rounds).mono ?_
  rintro e w18 ⟨rfl, hb⟩
  rw [HS3.out]
  have hL := HL17.out.step hb
  clear a0 a1 a2 a3 a4 a5 a6 a7 a8 a9 a10 a11 m0 m1
  obtain ⟨a0, a1, a2, a3, a4, a5, a6, a7, a8, a9, a10, a11⟩ := sane_cells (B := B) (g := g) (hL.get (by simp)) (hL.get (by simp))
  have m0 := (show BookN M 4 (.slice ma 4 mc) _ from hL.get (by simp)).c0
  have m1 := (show BookN M 4 (.slice ma 4 mc) _ from hL.get (by simp)).c1
  rw [hM] at m0 m1
  have HL18 := Lib.hid hL
  rw [hB] at a0 a1
  clear hb hL HL17
  go_wp2_with fail
  refine (find_any 4 _ sL 1 9 w18 (show RecsN _ _ _ from HL18.out.get (by simp)) (by decide) HL18.out.rounds.lt).mono ?_
  rintro e w19 ⟨rfl, hb⟩
  rw [HF1.out]
  have hL := HL18.out.step hb
  clear a0 a1 a2 a3 a4 a5 a6 a7 a8 a9 a10 a11 m0 m1
  obtain ⟨a0, a1, a2, a3, a4, a5, a6, a7, a8, a9, a10, a11⟩ := sane_cells (B := B) (g := g) (hL.get (by simp)) (hL.get (by simp))
  have m0 := (show BookN M 4 (.slice ma 4 mc) _ from hL.get (by simp)).c0
  have m1 := (show BookN M 4 (.slice ma 4 mc) _ from hL.get (by simp)).c1
  rw [hM] at m0 m1
  have HL19 := Lib.hid hL
  rw [hB] at a0 a1
  clear hb hL HL18
  go_wp2_with fail
  refine (find_any 4 _ sL 1 19 w19 (show RecsN _ _ _ from HL19.out.get (by simp)) (by decide) HL19.out.rounds.lt).mono ?_
  rintro e w20 ⟨rfl, hb⟩
  rw [HF2.out]
  have hL := HL19.out.step hb
  clear a0 a1 a2 a3 a4 a5 a6 a7 a8 a9 a10 a11 m0 m1
  obtain ⟨a0, a1, a2, a3, a4, a5, a6, a7, a8, a9, a10, a11⟩ := sane_cells (B := B) (g := g) (hL.get (by simp)) (hL.get (by simp))
  have m0 := (show BookN M 4 (.slice ma 4 mc) _ from hL.get (by simp)).c0
  have m1 := (show BookN M 4 (.slice ma 4 mc) _ from hL.get (by simp)).c1
  rw [hM] at m0 m1
  have HL20 := Lib.hid hL
  rw [hB] at a0 a1
  clear hb hL HL19
  go_wp2_with fail
  refine (find_any 4 _ sL 1 20 w20 (show RecsN _ _ _ from HL20.out.get (by simp)) (by decide) HL20.out.rounds.lt).mono ?_
  rintro e w21 ⟨rfl, hb⟩
  rw [HF3.out]
  have hL := HL20.out.step hb
  clear a0 a1 a2 a3 a4 a5 a6 a7 a8 a9 a10 a11 m0 m1
  obtain ⟨a0, a1, a2, a3, a4, a5, a6, a7, a8, a9, a10, a11⟩ := sane_cells (B := B) (g := g) (hL.get (by simp)) (hL.get (by simp))
  have m0 := (show BookN M 4 (.slice ma 4 mc) _ from hL.get (by simp)).c0
  have m1 := (show BookN M 4 (.slice ma 4 mc) _ from hL.get (by simp)).c1
  rw [hM] at m0 m1
  have HL21 := Lib.hid hL
  rw [hB] at a0 a1
  clear hb hL HL20
  go_wp2
  obtain ⟨Wb, hWb⟩ : ∃ Wb, Wb = w21 := ⟨_, rfl⟩
  have HQ : Hid (∀ W, w21.grownBy W none → W.cell? ⟨w1.heap.size, 0, none⟩ = some (.int .i64 4) ∧ W.cell? ⟨w1.heap.size, 1, none⟩ = some (.slice (some ⟨g, 0, none⟩) 3 3) ∧ W.cell? ⟨g, 0, none⟩ = some (.int .i64 10) ∧ W.cell? ⟨g, 1, none⟩ = some (.int .i64 1) ∧ W.cell? ⟨g, 2, none⟩ = some (.int .i64 7) ∧ W.cell? ⟨g, 3, none⟩ = some (.int .i64 (-1)) ∧ W.cell? ⟨g, 4, none⟩ = some (.string (⟨#[110, 101, 119, 115]⟩ : ByteArray)) ∧ W.cell? ⟨w3.heap.size, 0, none⟩ = some (.int .i64 10) ∧ W.cell? ⟨w3.heap.size, 1, none⟩ = some (.int .i64 1) ∧ W.cell? ⟨w3.heap.size, 2, none⟩ = some (.int .i64 7) ∧ W.cell? ⟨w3.heap.size, 3, none⟩ = some (.int .i64 (-1)) ∧ W.cell? ⟨w3.heap.size, 4, none⟩ = some (.string (⟨#[110, 101, 119, 115]⟩ : ByteArray)) ∧ W.cell? ⟨w7.heap.size, 0, none⟩ = some (.int .i64 4) ∧ W.cell? ⟨w7.heap.size, 1, none⟩ = some (.slice ma 4 mc)) := fun W hW => by
    have hL := HL21.out.step (grown_below hW)
    obtain ⟨a0, a1, a2, a3, a4, a5, a6, a7, a8, a9, a10, a11⟩ := sane_cells (B := B) (g := g) (hL.get (by simp)) (hL.get (by simp))
    have hx := (show RecBox W w3.heap.size sx0 from (show RecN w3.heap.size sx0 W from hL.get (by simp))).cells
    have hm := (show BookN M 4 (.slice ma 4 mc) W from hL.get (by simp))
    rw [hM] at hm
    rw [hB] at a0 a1
    exact ⟨a0, a1, a2, a3, a4, a5, a6, hx.1, hx.2.1, hx.2.2.1, hx.2.2.2.1, hx.2.2.2.2, hm.c0, hm.c1⟩
  clear a0 a1 a2 a3 a4 a5 a6 a7 a8 a9 a10 a11 m0 m1
  have heq : ∀ W : World, (binOp .eql 48 (.agg #[.int .i64 10, .int .i64 1, .int .i64 7, .int .i64 (-1), .string (⟨#[110, 101, 119, 115]⟩ : ByteArray)]) (.agg #[.int .i64 10, .int .i64 1, .int .i64 7, .int .i64 (-1), .string (⟨#[110, 101, 119, 115]⟩ : ByteArray)])).run Tryz.prog W = .ok (.bool true) W := fun W => by kernel_rfl
  clear hWb
  refine wp_region_calm ⟨[27, 31], fun k v _ => v = .bool (decide (k = 27)), fun _ => [], 99, none, 1000⟩ (by kernel_rfl) (by kernel_rfl) (by kernel_rfl) (fun g h => by cases h) (fun k hk v W W' c h hg hc => h) ?_
  iterate 1 (refine calm_quiet (v := ?_) (by rfl) (by rfl) (fun W hW hD => ?_) ?_; rotate_left; (· (obtain ⟨z0, z1, z2, z3, z4, z5, z6, z7, z8, z9, z10, z11, z12, z13⟩ := HQ.out W hW; clear hD hW; go_simp; try with_reducible rfl)); simp only [Act.put, List.setIfInBounds_toArray, List.set_cons_zero, List.set_cons_succ, Nat.reduceAdd, Nat.zero_add])
  refine calm_quiet (v := .bool true) (by rfl) (by rfl) (fun W hW hD => ?_) ?_
  · clear hD hW
    go_simp
    try rfl
  simp only [Act.put, List.setIfInBounds_toArray, List.set_cons_zero, List.set_cons_succ, Nat.reduceAdd, Nat.zero_add]
  iterate 25 (refine calm_quiet (v := ?_) (by rfl) (by rfl) (fun W hW hD => ?_) ?_; rotate_left; (· (obtain ⟨z0, z1, z2, z3, z4, z5, z6, z7, z8, z9, z10, z11, z12, z13⟩ := HQ.out W hW; clear hD hW; go_simp; try with_reducible rfl)); simp only [Act.put, List.setIfInBounds_toArray, List.set_cons_zero, List.set_cons_succ, Nat.reduceAdd, Nat.zero_add])
  refine calm_makes (by rfl) (by rfl) (fun W hW hD Kc hK => ?_) (fun v199 => ?_)
  · have hL := HL21.out.step (grown_below hW)
    refine wp_of_call (f := 37) ?_ ((valid_any 4 (.slice (some ⟨g, 0, none⟩) 3 3) sL W (show RecsN _ _ _ from hL.get (by simp))).mono ?_)
    · clear hD hW hK hL
      go_simp
    · rintro e w5 ⟨rfl, hb5⟩
      exact ⟨_, rfl, hK _ _ (made_plain (by show _ = _; rw [HB1.out]; rfl) hb5 rfl)⟩
  simp only [Act.put, List.setIfInBounds_toArray, List.set_cons_zero, List.set_cons_succ, Nat.reduceAdd, Nat.zero_add]
  refine calm_quiet (v := .bool true) (by rfl) (by rfl) (fun W hW hD => ?_) ?_
  · obtain rfl : v199 = .bool true := hD [] 27 (by kernel_rfl) (by kernel_rfl) (by kernel_rfl)
    clear hD hW
    go_simp
  simp only [Act.put, List.setIfInBounds_toArray, List.set_cons_zero, List.set_cons_succ, Nat.reduceAdd, Nat.zero_add]
  iterate 2 (refine calm_quiet (v := ?_) (by rfl) (by rfl) (fun W hW hD => ?_) ?_; rotate_left; (· (obtain ⟨z0, z1, z2, z3, z4, z5, z6, z7, z8, z9, z10, z11, z12, z13⟩ := HQ.out W hW; clear hD hW; go_simp; try with_reducible rfl)); simp only [Act.put, List.setIfInBounds_toArray, List.set_cons_zero, List.set_cons_succ, Nat.reduceAdd, Nat.zero_add])
  refine calm_makes (by rfl) (by rfl) (fun W hW hD Kc hK => ?_) (fun v203 => ?_)
  · refine wp_of_call (f := 37) ?_ ((valid_any 100 (.slice none 0 0) [] W (RecsAt.nil _ _)).mono ?_)
    · clear hD hW hK
      go_simp
    · rintro e w5 ⟨rfl, hb5⟩
      exact ⟨_, rfl, hK _ _ (made_plain (by show _ = _; rw [HB2.out]; rfl) hb5 rfl)⟩
  simp only [Act.put, List.setIfInBounds_toArray, List.set_cons_zero, List.set_cons_succ, Nat.reduceAdd, Nat.zero_add]
  refine calm_quiet (v := .bool true) (by rfl) (by rfl) (fun W hW hD => ?_) ?_
  · obtain rfl : v203 = .bool false := hD [] 31 (by kernel_rfl) (by kernel_rfl) (by kernel_rfl)
    clear hD hW
    go_simp
  simp only [Act.put, List.setIfInBounds_toArray, List.set_cons_zero, List.set_cons_succ, Nat.reduceAdd, Nat.zero_add]
  iterate 2 (refine calm_quiet (v := ?_) (by rfl) (by rfl) (fun W hW hD => ?_) ?_; rotate_left; (· (obtain ⟨z0, z1, z2, z3, z4, z5, z6, z7, z8, z9, z10, z11, z12, z13⟩ := HQ.out W hW; clear hD hW; go_simp; try with_reducible rfl)); simp only [Act.put, List.setIfInBounds_toArray, List.set_cons_zero, List.set_cons_succ, Nat.reduceAdd, Nat.zero_add])
  refine calm_nil fun W hW hF => ?_
  have hBf := Lib.hid (HL21.out.below.trans ((grown_below hW).mono HL21.out.below.size))
  clear hF hW
  go_wp2
  go_ret
  exact ⟨rfl, hBf.out⟩
end Go.Proofs.YthfenbdlolbikaaGreatDoor
end
