import Derived.Test.YteicimmdcdjagaaGreatDoorVSmall
import Derived.Test.YteicimmdcdjagaaGreatDoorVPage
set_option linter.unusedVariables false
set_option linter.unusedSimpArgs false

/- The reference's One: a note that four integers determine. -/
set_option linter.unusedVariables false
set_option linter.unusedSimpArgs false
namespace Go.Proofs.YteicimmdcdjagaaGreatDoor
open Go.RowKit Go.Shelf

abbrev fourV (g : Nat → Int) : Value := .agg #[.int .i64 (g 0), .int .i64 (g 1), .int .i64 (g 2), .int .i64 (g 3)]
theorem tdiv_bd (z k : Int) (hk : 1 ≤ k) : (0 ≤ z → 0 ≤ z.tdiv k ∧ z.tdiv k ≤ z) ∧ (z ≤ 0 → z ≤ z.tdiv k ∧ z.tdiv k ≤ 0) := by
  have h1 : ∀ y : Int, 0 ≤ y → 0 ≤ y.tdiv k ∧ y.tdiv k ≤ y := fun y hy => by
    rw [Int.tdiv_eq_ediv_of_nonneg hy]
    exact ⟨Int.ediv_nonneg hy (by omega), Int.ediv_le_self _ hy⟩
  refine ⟨h1 z, fun hz => ?_⟩
  have h2 := h1 (-z) (by omega)
  rw [Int.neg_tdiv] at h2
  omega
def txtAt (z : Int) (i : Nat) : UInt8 := UInt8.ofNat (97 + pickZ (z.tdiv (4 + (i : Int))) 3).toNat
theorem txtAt_val (z : Int) (i : Nat) : ((txtAt z i).toNat : Int) = 97 + pickZ (z.tdiv (4 + (i : Int))) 3 := by
  have := pickZ_bd (z.tdiv (4 + (i : Int))) 3 (by omega)
  unfold txtAt
  rw [UInt8.toNat_ofNat']
  omega
theorem txtZ_succ (z : Int) (k : Nat) (h : k < (pickZ z 4).toNat) : (txtZ z).take (k + 1) = (txtZ z).take k ++ [txtAt z k] := by
  rw [take_getD (txtZ z) 0 k (by unfold txtZ; rw [List.length_map, List.length_range]; exact h)]
  congr 2
  unfold txtZ
  rw [List.getD_eq_getElem?_getD, List.getElem?_map, List.getElem?_range h]
  rfl
theorem txtZ_all (z : Int) : (txtZ z).take (pickZ z 4).toNat = txtZ z := by
  refine List.take_of_length_le ?_
  unfold txtZ
  simp
theorem vbs_snoc (l : Bytes) (b : UInt8) : bs l ++ bs [b] = bs (l ++ [b]) := cat_bs l [b]
/-- What the steps of the first region leave. -/
def OneF (B : Nat) (a b c : Int) : Nat → Value → World → Prop := fun k v W =>
  if k = 2 then v = .int .i64 a else if k = 5 then v = .int .i64 b else if k = 8 then v = .int .i64 c
  else ∃ g, v = .pointer (some ⟨g, 0, none⟩) ∧ B ≤ g ∧ BoxN g 48 #[.int .i64 0, .int .i64 0, .int .i64 0, .string (⟨#[]⟩ : ByteArray)] W
theorem oneF_kept {B k : Nat} {a b c : Int} {v : Value} {W W' : World} {cc : Option Nat} (h : OneF B a b c k v W) (hg : W.grownBy W' cc) (hc : ∀ g, cc = some g → False) : OneF B a b c k v W' := by
  unfold OneF at h ⊢
  split at h
  · rename_i hk; rw [if_pos hk]; exact h
  · rename_i hk; rw [if_neg hk]; split at h
    · rename_i hk; rw [if_pos hk]; exact h
    · rename_i hk; rw [if_neg hk]; split at h
      · rename_i hk; rw [if_pos hk]; exact h
      · rename_i hk; rw [if_neg hk]
        obtain ⟨g, rfl, hB, hb⟩ := h
        exact ⟨g, rfl, hB, BoxN.grown hb hg fun e => hc g e⟩
/-- What the steps of the second region leave. -/
def VTxtF (B : Nat) (p : Int) (b : UInt8) : Nat → Value → World → Prop := fun k v W =>
  if k = 7 then v = .int .i64 p else ∃ g, v = .slice (some ⟨g, 0, none⟩) 1 1 ∧ B ≤ g ∧ W.heap[g]? = some (.cells #[.int .u8 (b.toNat : Int)] 5 (0, 0))
theorem vtxtF_kept {B k : Nat} {p : Int} {b : UInt8} {v : Value} {W W' : World} {cc : Option Nat} (h : VTxtF B p b k v W) (hg : W.grownBy W' cc) (hc : ∀ g, cc = some g → False) : VTxtF B p b k v W' := by
  unfold VTxtF at h ⊢
  split at h
  · rename_i hk; rw [if_pos hk]; exact h
  · rename_i hk; rw [if_neg hk]
    obtain ⟨g, rfl, hB, hb⟩ := h
    exact ⟨g, rfl, hB, (hg.block g (Array.getElem?_eq_some_iff.1 hb).1 fun e => hc g e.symm).trans hb⟩
set_option maxRecDepth 100000 in
set_option maxHeartbeats 4000000 in
theorem one_any (g : Nat → Int) (w : World) (hg : ∀ k, k < 4 → -9223372036854775808 ≤ g k ∧ g k ≤ 9223372036854775807) :
    Calls Tryz.prog 31 #[fourV g] w fun e w' => e = .returned (noteV (oneZ g)) ∧ Below w.heap.size w w' := by
  have p0 := unitZ_bd (g 0)
  have p1 := pickZ_bd (g 1) 40 (by omega)
  have p2 := pickZ_bd (g 2) 3 (by omega)
  have p4 := pickZ_bd (g 3) 4 (by omega)
  have HP0 := Lib.hid (fun W => unit_any (g 0) W (hg 0 (by omega)).1 (hg 0 (by omega)).2)
  have HP1 := Lib.hid (fun W => vpickR_any (g 1) 40 W (hg 1 (by omega)).1 (hg 1 (by omega)).2 (by omega) (by omega))
  have HP2 := Lib.hid (fun W => vpickR_any (g 2) 3 W (hg 2 (by omega)).1 (hg 2 (by omega)).2 (by omega) (by omega))
  have HP4 := Lib.hid (fun W => vpickR_any (g 3) 4 W (hg 3 (by omega)).1 (hg 3 (by omega)).2 (by omega) (by omega))
  have HPt := Lib.hid (fun (k : Nat) (W : World) (hk : k < 4) => vpickR_any ((g 3).tdiv (4 + (k : Int))) 3 W (by have := (hg 3 (by omega)).1; have := tdiv_bd (g 3) (4 + (k : Int)) (by omega); omega) (by have := (hg 3 (by omega)).2; have := tdiv_bd (g 3) (4 + (k : Int)) (by omega); omega) (by omega) (by omega))
  have HE : Hid (oneZ g = ⟨unitZ (g 0), pickZ (g 1) 40, 1 + pickZ (g 2) 3, txtZ (g 3)⟩) := rfl
  have HTs := Lib.hid (txtZ_succ (g 3))
  have HTa := Lib.hid (txtZ_all (g 3))
  have HTv := Lib.hid (txtAt_val (g 3))
  have hz3 := hg 3 (by omega)
  generalize unitZ (g 0) = a at *
  generalize pickZ (g 1) 40 = b at *
  generalize pickZ (g 2) 3 = c at *
  obtain ⟨n, hn⟩ := Int.eq_ofNat_of_zero_le p4.1
  rw [hn] at HP4 HTs HTa p4
  simp only [Int.toNat_natCast] at HTs HTa
  clear hn hg
  go_enter Tryz.func31, Tryz.ntmps31
  go_wp2_with fail
  obtain ⟨W0, hW0⟩ : ∃ W0, W0 = (w.alloc (.cells #[.int .i64 (g 0), .int .i64 (g 1), .int .i64 (g 2), .int .i64 (g 3)] 66)).alloc (.cells #[.int .i64 0, .int .i64 0, .int .i64 0, .string (⟨#[]⟩ : ByteArray)] 48) := ⟨_, rfl⟩
  have hb0 : Below w.heap.size w W0 := by rw [hW0]; exact ((Below.refl _ _).alloc (Nat.le_refl _) _).alloc (by simp) _
  have hsz0 : W0.heap.size = w.heap.size + 2 := by rw [hW0]; simp
  have hF0 : BoxN w.heap.size 66 #[.int .i64 (g 0), .int .i64 (g 1), .int .i64 (g 2), .int .i64 (g 3)] W0 := by rw [hW0]; exact (box_new w _ _).alloc _
  have hR0 : BoxN (w.heap.size + 1) 48 #[.int .i64 0, .int .i64 0, .int .i64 0, .string (⟨#[]⟩ : ByteArray)] W0 := by
    rw [hW0]
    have := box_new (w.alloc (.cells #[.int .i64 (g 0), .int .i64 (g 1), .int .i64 (g 2), .int .i64 (g 3)] 66)) 48 #[.int .i64 0, .int .i64 0, .int .i64 0, .string (⟨#[]⟩ : ByteArray)]
    rw [World.size_alloc] at this
    exact this
  rw [← hW0]
  clear hW0
  have HQ : Hid (∀ W, W0.grownBy W none → W.cell? ⟨w.heap.size, 0, none⟩ = some (.int .i64 (g 0)) ∧ W.cell? ⟨w.heap.size, 1, none⟩ = some (.int .i64 (g 1)) ∧ W.cell? ⟨w.heap.size, 2, none⟩ = some (.int .i64 (g 2)) ∧ W.cell? ⟨w.heap.size, 3, none⟩ = some (.int .i64 (g 3))) := fun W hW =>
    have h := BoxN.grown hF0 hW (by simp)
    ⟨BoxN.cell h 0 _ rfl, BoxN.cell h 1 _ rfl, BoxN.cell h 2 _ rfl, BoxN.cell h 3 _ rfl⟩
  have HB0 := Lib.hid hb0
  have HF0 := Lib.hid hF0
  have HR0 := Lib.hid hR0
  have w1 : IntKind.i64.wrap (1 + c) = 1 + c := IntWalk.i64_in _ (by omega)
  clear hb0 hF0 hR0
  refine wp_region_calm ⟨[2, 5, 8, 11], OneF W0.heap.size a b c, fun _ => [], 99, none, 12⟩ (by kernel_rfl) (by kernel_rfl) (by kernel_rfl) (fun g h => by cases h) (fun k hk v W W' c h hg hc => oneF_kept h hg fun g hh => ?_) ?_
  · obtain ⟨_, _, i, j, u, hd, _⟩ := hc g hh
    simp at hd
  iterate 2 (refine calm_quiet (v := ?_) (by rfl) (by rfl) (fun W hW hD => ?_) ?_; rotate_left; (· (obtain ⟨z0, z1, z2, z3⟩ := HQ.out W hW; clear hD hW; go_simp; try with_reducible rfl)); simp only [Act.put, List.setIfInBounds_toArray, List.set_cons_zero, List.set_cons_succ, Nat.reduceAdd, Nat.zero_add])
  refine calm_makes (by rfl) (by rfl) (fun W hW hD K hK => ?_) (fun v7 => ?_)
  · refine wp_of_call (f := 17) ?_ ((HP0.out W).mono ?_)
    · obtain ⟨z0, z1, z2, z3⟩ := HQ.out W hW
      clear hD hW hK
      go_simp
    · rintro e w5 ⟨rfl, hb5⟩
      exact ⟨_, rfl, hK _ _ (made_plain rfl hb5 rfl)⟩
  simp only [Act.put, List.setIfInBounds_toArray, List.set_cons_zero, List.set_cons_succ, Nat.reduceAdd, Nat.zero_add]
  iterate 2 (refine calm_quiet (v := ?_) (by rfl) (by rfl) (fun W hW hD => ?_) ?_; rotate_left; (· (obtain ⟨z0, z1, z2, z3⟩ := HQ.out W hW; clear hD hW; go_simp; try with_reducible rfl)); simp only [Act.put, List.setIfInBounds_toArray, List.set_cons_zero, List.set_cons_succ, Nat.reduceAdd, Nat.zero_add])
  refine calm_makes (by rfl) (by rfl) (fun W hW hD K hK => ?_) (fun v10 => ?_)
  · refine wp_of_call (f := 48) ?_ ((HP1.out W).mono ?_)
    · obtain ⟨z0, z1, z2, z3⟩ := HQ.out W hW
      clear hD hW hK
      go_simp
    · rintro e w5 ⟨rfl, rfl⟩
      exact ⟨_, rfl, hK _ _ (made_plain rfl (Below.refl _ _) rfl)⟩
  simp only [Act.put, List.setIfInBounds_toArray, List.set_cons_zero, List.set_cons_succ, Nat.reduceAdd, Nat.zero_add]
  iterate 2 (refine calm_quiet (v := ?_) (by rfl) (by rfl) (fun W hW hD => ?_) ?_; rotate_left; (· (obtain ⟨z0, z1, z2, z3⟩ := HQ.out W hW; clear hD hW; go_simp; try with_reducible rfl)); simp only [Act.put, List.setIfInBounds_toArray, List.set_cons_zero, List.set_cons_succ, Nat.reduceAdd, Nat.zero_add])
  refine calm_makes (by rfl) (by rfl) (fun W hW hD K hK => ?_) (fun v13 => ?_)
  · refine wp_of_call (f := 48) ?_ ((HP2.out W).mono ?_)
    · obtain ⟨z0, z1, z2, z3⟩ := HQ.out W hW
      clear hD hW hK
      go_simp
    · rintro e w5 ⟨rfl, rfl⟩
      exact ⟨_, rfl, hK _ _ (made_plain rfl (Below.refl _ _) rfl)⟩
  simp only [Act.put, List.setIfInBounds_toArray, List.set_cons_zero, List.set_cons_succ, Nat.reduceAdd, Nat.zero_add]
  refine calm_quiet (v := .int .i64 (1 + c)) (by rfl) (by rfl) (fun W hW hD => ?_) ?_
  · obtain rfl : v13 = .int .i64 c := hD [] 8 (by kernel_rfl) (by kernel_rfl) (by kernel_rfl)
    clear hD hW
    go_simp
  simp only [Act.put, List.setIfInBounds_toArray, List.set_cons_zero, List.set_cons_succ, Nat.reduceAdd, Nat.zero_add]
  refine calm_quiet (v := .agg #[.int .i64 a, .int .i64 b, .int .i64 (1 + c), .string (⟨#[]⟩ : ByteArray)]) (by rfl) (by rfl) (fun W hW hD => ?_) ?_
  · obtain rfl : v7 = .int .i64 a := hD [] 2 (by kernel_rfl) (by kernel_rfl) (by kernel_rfl)
    obtain rfl : v10 = .int .i64 b := hD [] 5 (by kernel_rfl) (by kernel_rfl) (by kernel_rfl)
    clear hD hW
    go_simp
  simp only [Act.put, List.setIfInBounds_toArray, List.set_cons_zero, List.set_cons_succ, Nat.reduceAdd, Nat.zero_add]
  refine calm_makes (by rfl) (by rfl) (fun W hW hD K hK => ?_) (fun v3 => ?_)
  · refine wp_of_run (v := .pointer (some ⟨W.heap.size, 0, none⟩)) (w' := W.alloc (.cells #[.int .i64 0, .int .i64 0, .int .i64 0, .string (⟨#[]⟩ : ByteArray)] 48)) ?_ (hK _ _ (made_plain ⟨W.heap.size, rfl, hW.size, box_new W _ _⟩ ((Below.refl _ _).alloc (Nat.le_refl _) _) rfl))
    clear hD hW hK
    go_simp
  simp only [Act.put, List.setIfInBounds_toArray, List.set_cons_zero, List.set_cons_succ, Nat.reduceAdd, Nat.zero_add]
  refine calm_tail (by rfl) fun W hW hF => ?_
  obtain ⟨G, hv5, hGB, hGb⟩ : ∃ G, v3 = .pointer (some ⟨G, 0, none⟩) ∧ W0.heap.size ≤ G ∧ BoxN G 48 #[.int .i64 0, .int .i64 0, .int .i64 0, .string (⟨#[]⟩ : ByteArray)] W := hF 11 (by kernel_rfl) (by kernel_rfl)
  subst hv5
  have hbW := grown_below hW
  have hFw := BoxN.below HF0.out hbW HF0.out.lt
  have hRw := BoxN.below HR0.out hbW HR0.out.lt
  have q0 := BoxN.cell hGb 0 _ rfl
  have q1 := BoxN.cell hGb 1 _ rfl
  have q2 := BoxN.cell hGb 2 _ rfl
  have q3 := BoxN.cell hGb 3 _ rfl
  have qf := BoxN.frozen hGb
  obtain ⟨W1, hW1⟩ : ∃ W1, W1 = (((W.setCell ⟨G, 0, none⟩ (.int .i64 a)).setCell ⟨G, 1, none⟩ (.int .i64 b)).setCell ⟨G, 2, none⟩ (.int .i64 (1 + c))).setCell ⟨G, 3, none⟩ (.string (⟨#[]⟩ : ByteArray)) := ⟨_, rfl⟩
  have hb1 : Below W0.heap.size W W1 := by
    rw [hW1]
    exact below_set4 (Below.refl _ _) hGB _ _ _ _
  have hG1 : NoteN G ⟨a, b, 1 + c, []⟩ W1 := by
    rw [hW1]
    exact BoxN.set4 hGb _ _ _ _
  have HW1 := Lib.hid hW1
  have HB1 := Lib.hid (HB0.out.trans ((hbW.trans hb1).mono (by omega)))
  have HG1 := Lib.hid hG1
  have HF1 := Lib.hid (BoxN.below hFw hb1 (by omega))
  have HR1 := Lib.hid (BoxN.below hRw hb1 (by omega))
  have hz1 := hb1.size
  have hz0 := hbW.size
  clear hF hW hbW hFw hRw hW1 hb1 hG1 HQ HB0 HF0 HR0 hGb
  go_wp2_with fail
  rw [← HW1.out]
  have hw0 : w.heap.size + 1 < G := by omega
  go_loopw [4] (fun i wr => ∃ k : Nat, k ≤ n ∧ i = .int .i64 k ∧ Hid (NoteN G ⟨a, b, 1 + c, (txtZ (g 3)).take k⟩ wr) ∧ Hid (BoxN w.heap.size 66 #[.int .i64 (g 0), .int .i64 (g 1), .int .i64 (g 2), .int .i64 (g 3)] wr) ∧ Hid (BoxN (w.heap.size + 1) 48 #[.int .i64 0, .int .i64 0, .int .i64 0, .string (⟨#[]⟩ : ByteArray)] wr) ∧ Hid (Below w.heap.size w wr)) (fun i _ => n - (intOf i).toNat)
  case atStart => exact ⟨0, Nat.zero_le _, rfl, HG1, HF1, HR1, HB1⟩
  case round =>
    obtain ⟨k, hk, rfl, HG, HF, HR, HB⟩ := hrel
    have hF3 := BoxN.cell HF.out 3 _ rfl
    have hzB := HB.out.size
    by_cases hkn : k < n
    · have d1 : decide ((k : Int) < (n : Int)) = true := by simp; omega
      have HT1 := Lib.hid (HTs.out k hkn)
      have HTv1 := Lib.hid (HTv.out k)
      have hk4 : k < 4 := by omega
      have HPk := Lib.hid (fun W => HPt.out k W hk4)
      have hdb := tdiv_bd (g 3) (4 + (k : Int)) (by omega)
      have t1 : IntKind.i64.wrap (4 + (k : Int)) = 4 + (k : Int) := IntWalk.i64_in _ (by omega)
      have t2 : ¬ (4 + (k : Int) = 0) := by omega
      have t3 : IntKind.i64.wrap ((g 3).tdiv (4 + (k : Int))) = (g 3).tdiv (4 + (k : Int)) := IntWalk.i64_in _ (by omega)
      have hpb := pickZ_bd ((g 3).tdiv (4 + (k : Int))) 3 (by omega)
      have HTw := HTv1.out
      generalize pickZ ((g 3).tdiv (4 + (k : Int))) 3 = pz at *
      have htl : ((txtZ (g 3)).take k).length ≤ 3 := by rw [List.length_take]; have := txtZ_length (g 3); omega
      generalize (txtZ (g 3)).take k = T at *
      generalize txtAt (g 3) k = B8 at *
      have t4 : IntKind.i64.wrap (97 + pz) = 97 + pz := IntWalk.i64_in _ (by omega)
      have t5 : IntKind.u8.wrap (97 + pz) = (B8.toNat : Int) := by
        rw [IntKind.wrap_u8, ← HTw]
        have := B8.toNat_lt
        omega
      have t6 : (97 + pz) = (B8.toNat : Int) := HTw.symm
      have HQ : Hid (∀ W, wr.grownBy W none → W.cell? ⟨G, 3, none⟩ = some (.string (bs T)) ∧ W.cell? ⟨w.heap.size, 3, none⟩ = some (.int .i64 (g 3))) := fun W hW =>
        ⟨BoxN.cell (BoxN.grown HG.out hW (by simp)) 3 _ rfl, BoxN.cell (BoxN.grown HF.out hW (by simp)) 3 _ rfl⟩
      have hts : (bs T).size ≤ 3 := by rw [bs_size]; exact htl
      have HCat := Lib.hid (vbs_snoc T B8)
      have T4 := Lib.hid t4
      have T5 := Lib.hid t5
      have T6 := Lib.hid t6
      clear htl hdb hpb HW1 HB1 HG1 HF1 HR1 q0 q1 q2 q3 qf t4 t5 t6 HTw HTv1
      go_wp2_with (go_at_call 48; refine (HP4.out _).mono ?_; rintro e w' ⟨rfl, rfl⟩)
      clear hF3
      refine wp_region_calm ⟨[7, 10], VTxtF wr.heap.size pz B8, fun _ => [], 99, none, 14⟩ (by kernel_rfl) (by kernel_rfl) (by kernel_rfl) (fun g h => by cases h) (fun k hk v W W' c h hg hc => vtxtF_kept h hg fun g hh => ?_) ?_
      · obtain ⟨_, _, i, j, u, hd, _⟩ := hc g hh
        simp at hd
      iterate 6 (refine calm_quiet (v := ?_) (by rfl) (by rfl) (fun W hW hD => ?_) ?_; rotate_left; (· (obtain ⟨z0, z1⟩ := HQ.out W hW; clear hD hW; go_simp; try with_reducible rfl)); simp only [Act.put, List.setIfInBounds_toArray, List.set_cons_zero, List.set_cons_succ, Nat.reduceAdd, Nat.zero_add])
      refine calm_quiet (v := .int .i64 ((g 3).tdiv (4 + (k : Int)))) (by rfl) (by rfl) (fun W hW hD => ?_) ?_
      · clear hD hW
        go_simp
        try (first | exact t3 | (rw [t3]))
      simp only [Act.put, List.setIfInBounds_toArray, List.set_cons_zero, List.set_cons_succ, Nat.reduceAdd, Nat.zero_add]
      refine calm_makes (by rfl) (by rfl) (fun W hW hD K hK => ?_) (fun v36 => ?_)
      · refine wp_of_call (f := 48) ?_ ((HPk.out W).mono ?_)
        · clear hD hW hK
          go_simp
        · rintro e w5 ⟨rfl, rfl⟩
          exact ⟨_, rfl, hK _ _ (made_plain rfl (Below.refl _ _) rfl)⟩
      simp only [Act.put, List.setIfInBounds_toArray, List.set_cons_zero, List.set_cons_succ, Nat.reduceAdd, Nat.zero_add]
      refine calm_quiet (v := .int .i64 (97 + pz)) (by rfl) (by rfl) (fun W hW hD => ?_) ?_
      · obtain rfl : v36 = .int .i64 pz := hD [] 7 (by kernel_rfl) (by kernel_rfl) (by kernel_rfl)
        have t4 := T4.out
        clear hD hW
        go_simp
      simp only [Act.put, List.setIfInBounds_toArray, List.set_cons_zero, List.set_cons_succ, Nat.reduceAdd, Nat.zero_add]
      refine calm_quiet (v := .int .u8 (B8.toNat : Int)) (by rfl) (by rfl) (fun W hW hD => ?_) ?_
      · have t5 := T5.out
        clear hD hW
        go_simp
      simp only [Act.put, List.setIfInBounds_toArray, List.set_cons_zero, List.set_cons_succ, Nat.reduceAdd, Nat.zero_add]
      refine calm_makes (by rfl) (by rfl) (fun W hW hD K hK => ?_) (fun v38 => ?_)
      · refine wp_of_run (v := .slice (some ⟨W.heap.size, 0, none⟩) 1 1) (w' := W.alloc (.cells #[.int .u8 (B8.toNat : Int)] 5)) ?_ (hK _ _ (made_below ⟨W.heap.size, rfl, hW.size, heap_alloc_new W _⟩ ((Below.refl _ _).alloc (Nat.le_refl _) _) (fun g hg => ?_)))
        · clear hD hW hK
          go_simp
        · have hg' : some W.heap.size = some g := hg
          cases hg'
          exact ⟨Nat.le_refl _, by simp⟩
      simp only [Act.put, List.setIfInBounds_toArray, List.set_cons_zero, List.set_cons_succ, Nat.reduceAdd, Nat.zero_add]
      refine calm_quiet (v := .string (bs [B8])) (by rfl) (by rfl) (fun W hW hD => ?_) ?_
      · obtain ⟨q, rfl, _, hq⟩ : ∃ q, v38 = .slice (some ⟨q, 0, none⟩) 1 1 ∧ wr.heap.size ≤ q ∧ W.heap[q]? = some (.cells #[.int .u8 (B8.toNat : Int)] 5 (0, 0)) := hD [] 10 (by kernel_rfl) (by kernel_rfl) (by kernel_rfl)
        have hcv := run_convert_bytes_back W 100 9 5 ⟨q, 0, none⟩ 1 [B8] Tryz.underlying100 Tryz.underlying5 Tryz.underlying9 (fun j hj => by
          match j, hj with
          | 0, _ => rw [show ((⟨q, 0, none⟩ : Addr).add 0) = ⟨q, 0, none⟩ from rfl, Lib.cell_of_heap hq]; rfl)
        have hcv2 : (convert 100 9 (.slice (some ⟨q, 0, none⟩) 1 1)).run Tryz.prog W = .ok (.string (bs [B8])) W := hcv
        clear hD hW hq hcv
        go_simp
      simp only [Act.put, List.setIfInBounds_toArray, List.set_cons_zero, List.set_cons_succ, Nat.reduceAdd, Nat.zero_add]
      refine calm_quiet (v := .string (bs (T ++ [B8]))) (by rfl) (by rfl) (fun W hW hD => ?_) ?_
      · have hsz : ¬ (9223372036854775807 < (bs T).size + (bs [B8]).size) := by rw [bs_size [B8], List.length_singleton]; omega
        clear hD hW
        rw [← HCat.out]
        go_simp
      simp only [Act.put, List.setIfInBounds_toArray, List.set_cons_zero, List.set_cons_succ, Nat.reduceAdd, Nat.zero_add]
      iterate 1 (refine calm_quiet (v := ?_) (by rfl) (by rfl) (fun W hW hD => ?_) ?_; rotate_left; (· (obtain ⟨z0, z1⟩ := HQ.out W hW; clear hD hW; go_simp; try with_reducible rfl)); simp only [Act.put, List.setIfInBounds_toArray, List.set_cons_zero, List.set_cons_succ, Nat.reduceAdd, Nat.zero_add])
      refine calm_tail (by rfl) fun W hW hF => ?_
      have hbW := grown_below hW
      have hGw := BoxN.below HG.out hbW HG.out.lt
      have q3 := BoxN.cell hGw 3 _ rfl
      have qf := BoxN.frozen hGw
      have HGs := Lib.hid (show NoteN G ⟨a, b, 1 + c, T ++ [B8]⟩ _ from hGw.set 3 (.string (bs (T ++ [B8]))))
      have HFs := Lib.hid (BoxN.other (g' := G) (j := 3) (v := .string (bs (T ++ [B8]))) (BoxN.below HF.out hbW HF.out.lt) (by omega))
      have HRs := Lib.hid (BoxN.other (g' := G) (j := 3) (v := .string (bs (T ++ [B8]))) (BoxN.below HR.out hbW HR.out.lt) (by omega))
      have HBs := Lib.hid ((HB.out.trans (hbW.mono (by omega))).setCell (p := ⟨G, 3, none⟩) (by show w.heap.size ≤ G; omega) (.string (bs (T ++ [B8]))))
      clear hF hW hbW hGw HG HF HR HB
      go_wp2
      go_roundw
      case rel => exact ⟨k + 1, by omega, by go_num, by rw [HT1.out]; exact HGs, HFs, HRs, HBs⟩
      case measure => simp [intOf]; omega
    · obtain rfl : k = n := by omega
      have d1 : decide ((k : Int) < (k : Int)) = false := by simp
      rw [HTa.out] at HG
      obtain ⟨q0, q1, q2, q3⟩ := NoteN.cells HG.out
      have hr := HR.out
      have r0 := BoxN.cell hr 0 _ rfl
      have r1 := BoxN.cell hr 1 _ rfl
      have r2 := BoxN.cell hr 2 _ rfl
      have r3 := BoxN.cell hr 3 _ rfl
      have rf := BoxN.frozen hr
      have HF2 := Lib.hid (BoxN.set4 hr (.int .i64 a) (.int .i64 b) (.int .i64 (1 + c)) (.string (bs (txtZ (g 3)))))
      have HBs := Lib.hid (below_set4 HB.out (g := w.heap.size + 1) (by omega) (.int .i64 a) (.int .i64 b) (.int .i64 (1 + c)) (.string (bs (txtZ (g 3)))))
      clear hr HR HF HB HG HW1 HB1 HG1 HF1 HR1
      simp only at q0 q1 q2 q3
      go_wp2_with (go_at_call 48; refine (HP4.out _).mono ?_; rintro e w' ⟨rfl, rfl⟩)
      have hE := HF2.out
      exact bodyPost_ret (v := noteV ⟨a, b, 1 + c, txtZ (g 3)⟩) (by simp [results, Tryz.results31, go_sem, BoxN.cell hE 0 _ rfl, BoxN.cell hE 1 _ rfl, BoxN.cell hE 2 _ rfl, BoxN.cell hE 3 _ rfl]) rfl ⟨by rw [HE.out], HBs.out⟩
end Go.Proofs.YteicimmdcdjagaaGreatDoor
