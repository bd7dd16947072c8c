/- collide of the statements; Same and Digests of the reference. -/
import Derived.Test.YteemhemnkdgehaaDoorDSmall
import Derived.Deep.RegionHeld3
namespace Go.Proofs.YteemhemnkdgehaaDoor
open Go.RowKit Go.Shelf

theorem zip_take {α β : Type} : ∀ (k : Nat) (a : List α) (b : List β), (a.take k).zip (b.take k) = (a.zip b).take k
  | 0, _, _ => by simp
  | k + 1, [], _ => by simp
  | k + 1, _ :: _, [] => by simp
  | k + 1, x :: a, y :: b => by simp [zip_take k a b]
theorem collB_succ (a b : List Bytes) (k : Nat) (ha : k < a.length) (hb : k < b.length) :
    collB (a.take (k + 1)) (b.take (k + 1)) = (collB (a.take k) (b.take k) || (a.getD k [] != b.getD k [] && sha (a.getD k []) == sha (b.getD k []))) := by
  unfold collB
  rw [zip_take, zip_take, take_getD (a.zip b) ([], []) k (by rw [List.length_zip]; omega), List.any_append]
  congr 1
  simp [List.getD_eq_getElem?_getD, List.getElem?_eq_getElem ha, List.getElem?_eq_getElem hb, List.zip, List.getElem?_zipWith]
theorem collB_end (a b : List Bytes) (k : Nat) (h : a.length ≤ k ∨ b.length ≤ k) : collB (a.take k) (b.take k) = collB a b := by
  unfold collB
  rw [zip_take, List.take_of_length_le (by rw [List.length_zip]; omega)]
theorem collB_hit (a b : List Bytes) (k : Nat) (ha : k < a.length) (hb : k < b.length) (hne : a.getD k [] ≠ b.getD k []) (hs : sha (a.getD k []) = sha (b.getD k [])) : collB a b = true := by
  have h1 := collB_succ a b k ha hb
  rw [show (a.getD k [] != b.getD k []) = true from by simp only [bne_iff_ne]; exact hne, show (sha (a.getD k []) == sha (b.getD k [])) = true from by rw [hs]; exact beq_self_eq_true _, Bool.true_and, Bool.or_true] at h1
  unfold collB at h1 ⊢
  rw [zip_take, List.any_eq_true] at h1
  obtain ⟨x, hx, h2⟩ := h1
  exact List.any_eq_true.2 ⟨x, List.mem_of_mem_take hx, h2⟩
theorem bs_eq_list (x y : Bytes) : ((bs x).toList == (bs y).toList) = (x == y) := by rw [bs_toList, bs_toList]
theorem sum_bs (x : Bytes) (w W : World) (hx : x.length ≤ 1000000) (hT : Rounds w) (hW : Below w.heap.size w W) : Calls Tryd.prog 30 #[.string (bs x)] W fun e w' => e = .returned (.string (bs (sha x))) ∧ Below w.heap.size w w' := by
  have h := sum_any (bs x) W (by rw [bs_size]; omega) (hT.below hW (Nat.le_refl _))
  rw [bs_list] at h
  exact h.mono fun _ _ ⟨h1, h2⟩ => ⟨h1, hW.trans (h2.mono hW.size)⟩
/-- The digest of a byte string. -/
def shaS (X : ByteArray) : ByteArray := bs (sha X.data.toList)
theorem sumS (w : World) (hT : Rounds w) (X : ByteArray) (W : World) (hx : X.size ≤ 1000000) (hW : Below w.heap.size w W) : Calls Tryd.prog 30 #[.string X] W fun e w' => e = .returned (.string (shaS X)) ∧ Below w.heap.size w w' :=
  (sum_any X W (by omega) (hT.below hW (Nat.le_refl _))).mono fun _ _ ⟨h1, h2⟩ => ⟨h1, hW.trans (h2.mono hW.size)⟩
theorem shaS_eq (x y : Bytes) : ((shaS (bs x)).toList == (shaS (bs y)).toList) = (sha x == sha y) := bs_eq_list _ _
set_option maxRecDepth 100000 in
set_option maxHeartbeats 2000000 in
theorem collide_any (va vb : Value) (la lb : List Bytes) (w : World) (hA : StrsAt w.heap.size w va la) (hB : StrsAt w.heap.size w vb lb) (hla : ∀ x ∈ la, x.length ≤ 1000000) (hlb : ∀ x ∈ lb, x.length ≤ 1000000) (hT : Rounds w) :
    Calls Tryd.prog 27 #[va, vb] w fun e w' => e = .returned (.bool (collB la lb)) ∧ Below w.heap.size w w' := by
  obtain ⟨a, c, rfl, hac, hcm⟩ := hA.shape
  obtain ⟨a', c', rfl, hac', hcm'⟩ := hB.shape
  unfold maxLen at hcm hcm'
  have HA := Lib.hid hA
  have HB := Lib.hid hB
  have HLa := Lib.hid hla
  have HLb := Lib.hid hlb
  have HT := Lib.hid hT
  clear hA hB hla hlb hT
  generalize hn : la.length = n at *
  have Hn := Lib.hid hn
  generalize hm : lb.length = m at *
  have Hm := Lib.hid hm
  clear hn hm
  go_enter Tryd.func27, Tryd.ntmps27
  go_wp2
  go_loopw [5] (fun i wr => ∃ k : Nat, k ≤ n ∧ k ≤ m ∧ i = .int .i64 k ∧ Hid (collB (la.take k) (lb.take k) = false) ∧ Below w.heap.size w wr) (fun i _ => n - (intOf i).toNat)
  case atStart => exact ⟨0, Nat.zero_le _, Nat.zero_le _, rfl, rfl, Below.refl _ _⟩
  case round =>
    obtain ⟨k, hk, hkm, rfl, HC, hW⟩ := hrel
    have hz := hW.size
    by_cases h1 : k < n
    · by_cases h2 : k < m
      · obtain ⟨b, off, rfl, hb, q1⟩ := HA.out.at k (by rw [Hn.out]; exact h1)
        obtain ⟨b', off', rfl, hb', q2⟩ := HB.out.at k (by rw [Hm.out]; exact h2)
        have HC2 := Lib.hid (collB_succ la lb k (by rw [Hn.out]; exact h1) (by rw [Hm.out]; exact h2))
        rw [HC.out, Bool.false_or] at HC2
        have HC3 := Lib.hid (collB_hit la lb k (by rw [Hn.out]; exact h1) (by rw [Hm.out]; exact h2))
        have hxl := HLa.out _ (getD_mem' la [] k (by rw [Hn.out]; exact h1))
        have hyl := HLb.out _ (getD_mem' lb [] k (by rw [Hm.out]; exact h2))
        generalize la.getD k [] = x at *
        generalize lb.getD k [] = y at *
        have HS := Lib.hid (sumS w HT.out)
        rw [← bs_size] at hxl hyl
        have HQ1 := Lib.hid (fun (W : World) (hW : Below w.heap.size w W) => (hW.cell (p := ⟨b, off + k, none⟩) hb).trans q1)
        have HQ2 := Lib.hid (fun (W : World) (hW : Below w.heap.size w W) => (hW.cell (p := ⟨b', off' + k, none⟩) hb').trans q2)
        have p1 := HQ1.out _ hW
        have p2 := HQ2.out _ hW
        have hc1 := bs_eq_list x y
        have hc2 := shaS_eq x y
        have kk1 : (k : Int) < (n : Int) := by omega
        have kk2 : (k : Int) < (m : Int) := by omega
        clear q1 q2
        by_cases hxy : x = y
        · have HR : Hid (collB (la.take (k + 1)) (lb.take (k + 1)) = false) := by
            show _ = _
            rw [HC2.out, hxy, show (y != y) = false from by simp]
            rfl
          have hc3 : ((bs x).toList == (bs y).toList) = true := by rw [hc1, hxy]; exact beq_self_eq_true _
          clear hc1 hc2 HC2 HC3 hxy
          generalize bs x = X at *
          generalize bs y = Y at *
          have hc4 : (X.toList != Y.toList) = false := by rw [bne, hc3]; rfl
          have hc5 : (!(X.toList == Y.toList)) = false := by rw [hc3]; rfl
          go_wp2
          go_quiet (fail)
          go_wp2
          go_roundw
          case rel => exact ⟨k + 1, by omega, by omega, by go_num, HR, below_drewN0 hW _⟩
          case measure => simp [intOf]; omega
        · have hc3 : ((bs x).toList == (bs y).toList) = false := by rw [hc1]; exact beq_eq_false_iff_ne.2 hxy
          by_cases hss : sha x = sha y
          all_goals
            have HSS := Lib.hid hss
            have HXY := Lib.hid hxy
          · have hc6 : ((shaS (bs x)).toList == (shaS (bs y)).toList) = true := by rw [hc2, hss]; exact beq_self_eq_true _
            clear hc1 hc2 HC2 hxy hss
            generalize bs x = X at *
            generalize bs y = Y at *
            have hc4 : (X.toList != Y.toList) = true := by rw [bne, hc3]; rfl
            go_wp2
            go_region_held3 (fun W => W.cell? ⟨b, off + k, none⟩ = some (.string X) ∧ W.cell? ⟨b', off' + k, none⟩ = some (.string Y) ∧ Below w.heap.size w W) (first | exact ⟨r1, r2, hBc⟩ | exact ⟨p1, p2, hW.drew⟩)
              (first | (go_at_call 30; refine (HS.out _ _ (by assumption) (by first | assumption | exact (‹_ ∧ _ ∧ Below w.heap.size w _›).2.2)).mono ?_; rintro e wc ⟨rfl, hBc⟩; have r1 := HQ1.out _ hBc; have r2 := HQ2.out _ hBc))
            all_goals go_wp2
            all_goals go_ret
            all_goals exact ⟨by rw [HC3.out HXY.out HSS.out]; rfl, by assumption⟩
          · have HR : Hid (collB (la.take (k + 1)) (lb.take (k + 1)) = false) := by
              show _ = _
              rw [HC2.out, beq_eq_false_iff_ne.2 hss, Bool.and_false]
            have hc6 : ((shaS (bs x)).toList == (shaS (bs y)).toList) = false := by rw [hc2]; exact beq_eq_false_iff_ne.2 hss
            clear hc1 hc2 HC2 hxy hss
            generalize bs x = X at *
            generalize bs y = Y at *
            have hc4 : (X.toList != Y.toList) = true := by rw [bne, hc3]; rfl
            go_wp2
            go_region_held3 (fun W => W.cell? ⟨b, off + k, none⟩ = some (.string X) ∧ W.cell? ⟨b', off' + k, none⟩ = some (.string Y) ∧ Below w.heap.size w W) (first | exact ⟨r1, r2, hBc⟩ | exact ⟨p1, p2, hW.drew⟩)
              (first | (go_at_call 30; refine (HS.out _ _ (by assumption) (by first | assumption | exact (‹_ ∧ _ ∧ Below w.heap.size w _›).2.2)).mono ?_; rintro e wc ⟨rfl, hBc⟩; have r1 := HQ1.out _ hBc; have r2 := HQ2.out _ hBc))
            all_goals go_wp2
            all_goals exact ⟨⟨k + 1, by omega, by omega, by go_num, HR, by assumption⟩, by simp [intOf]; omega⟩
      · obtain rfl : k = m := by omega
        have HR := Lib.hid (collB_end la lb k (.inr (by rw [Hm.out]; exact Nat.le_refl _)))
        rw [HC.out] at HR
        go_wp2
        go_ret
        exact ⟨by rw [← HR.out]; rfl, hW⟩
    · obtain rfl : k = n := by omega
      have HR := Lib.hid (collB_end la lb k (.inl (by rw [Hn.out]; exact Nat.le_refl _)))
      rw [HC.out] at HR
      go_wp2
      go_ret
      exact ⟨by rw [← HR.out]; rfl, hW⟩
theorem same_succ (a b : List Bytes) (k : Nat) (ha : k < a.length) (hb : k < b.length) : (a.take (k + 1) == b.take (k + 1)) = (a.take k == b.take k && a.getD k [] == b.getD k []) := by
  rw [take_getD a [] k ha, take_getD b [] k hb, Bool.eq_iff_iff]
  simp only [beq_iff_eq, Bool.and_eq_true]
  constructor
  · intro h
    have := List.append_inj h (by rw [List.length_take, List.length_take]; omega)
    exact ⟨this.1, by simpa using this.2⟩
  · rintro ⟨h1, h2⟩
    rw [h1, h2]
theorem same_no (a b : List Bytes) (k : Nat) (h : (a.getD k [] == b.getD k []) = false) : (a == b) = false := by
  rw [beq_eq_false_iff_ne] at h ⊢
  intro e
  rw [e] at h
  exact h rfl
set_option maxRecDepth 100000 in
set_option maxHeartbeats 1000000 in
theorem same_any (va vb : Value) (la lb : List Bytes) (w : World) (hA : StrsAt w.heap.size w va la) (hB : StrsAt w.heap.size w vb lb) :
    Calls Tryd.prog 18 #[va, vb] w fun e w' => e = .returned (.bool (la == lb)) ∧ Below w.heap.size w w' := by
  obtain ⟨a, c, rfl, hac, hcm⟩ := hA.shape
  obtain ⟨a', c', rfl, hac', hcm'⟩ := hB.shape
  unfold maxLen at hcm hcm'
  have HA := Lib.hid hA
  have HB := Lib.hid hB
  clear hA hB
  by_cases hlen : la.length = lb.length
  · generalize hn : la.length = n at *
    have Hn := Lib.hid hn
    have Hm : Hid (lb.length = n) := hlen.symm
    rw [← hlen] at hac' HB ⊢
    clear hn hlen
    go_enter Tryd.func18, Tryd.ntmps18
    go_wp2
    go_loopw [5] (fun i wr => ∃ k : Nat, k ≤ n ∧ i = .int .i64 k ∧ Hid ((la.take k == lb.take k) = true) ∧ Below w.heap.size w wr) (fun i _ => n - (intOf i).toNat)
    case atStart => exact ⟨0, Nat.zero_le _, rfl, rfl, Below.refl _ _⟩
    case round =>
      obtain ⟨k, hk, rfl, HC, hW⟩ := hrel
      by_cases h1 : k < n
      · obtain ⟨b, off, rfl, hb, q1⟩ := HA.out.at k (by rw [Hn.out]; exact h1)
        obtain ⟨b', off', rfl, hb', q2⟩ := HB.out.at k (by rw [Hm.out]; exact h1)
        have p1 := (hW.cell (p := ⟨b, off + k, none⟩) hb).trans q1
        have p2 := (hW.cell (p := ⟨b', off' + k, none⟩) hb').trans q2
        have HC2 := Lib.hid (same_succ la lb k (by rw [Hn.out]; exact h1) (by rw [Hm.out]; exact h1))
        rw [HC.out, Bool.true_and] at HC2
        have HC3 := Lib.hid (same_no la lb k)
        generalize la.getD k [] = x at *
        generalize lb.getD k [] = y at *
        have hc1 := bs_eq_list x y
        have kk1 : (k : Int) < (n : Int) := by omega
        clear q1 q2
        cases hxy : (x == y)
        all_goals
          rw [hxy] at hc1 HC2 HC3
          clear hxy
          generalize bs x = X at *
          generalize bs y = Y at *
        · have hc4 : (X.toList != Y.toList) = true := by rw [bne, hc1]; rfl
          go_wp2
          try (go_quiet (fail); go_wp2)
          go_ret
          exact ⟨by rw [(by first | exact HC3.out rfl | exact HC3.out trivial : (la == lb) = false)]; rfl, below_drewN0 hW _⟩
        · have hc4 : (X.toList != Y.toList) = false := by rw [bne, hc1]; rfl
          go_wp2
          try (go_quiet (fail); go_wp2)
          go_roundw
          case rel => exact ⟨k + 1, by omega, by go_num, HC2, below_drewN0 hW _⟩
          case measure => simp [intOf]; omega
      · obtain rfl : k = n := by omega
        have HR : Hid ((la == lb) = true) := by
          have := HC.out
          rw [List.take_of_length_le (by rw [Hn.out]; exact Nat.le_refl _), List.take_of_length_le (by rw [Hm.out]; exact Nat.le_refl _)] at this
          exact this
        go_wp2
        go_ret
        exact ⟨by rw [HR.out]; rfl, hW⟩
  · have HR : Hid ((la == lb) = false) := by
      show _ = _
      rw [beq_eq_false_iff_ne]
      intro e
      exact hlen (congrArg List.length e)
    generalize la.length = n at *
    generalize lb.length = m at *
    have hne : ¬ ((n : Int) = (m : Int)) := by omega
    go_enter Tryd.func18, Tryd.ntmps18
    go_wp2
    go_ret
    exact ⟨by rw [HR.out]; rfl, Below.refl _ _⟩
theorem digB_succ (l : List Bytes) (k : Nat) (h : k < l.length) : digB (l.take (k + 1)) = (digB (l.take k) && decide ((l.getD k []).length = 32)) := by
  rw [take_getD l [] k h]
  unfold digB
  rw [List.all_append]
  simp
theorem digB_no (l : List Bytes) (k : Nat) (h : k < l.length) (hne : ¬ (l.getD k []).length = 32) : digB l = false := by
  unfold digB
  rw [List.all_eq_false]
  exact ⟨_, getD_mem' l [] k h, by simpa using hne⟩
set_option maxRecDepth 100000 in
set_option maxHeartbeats 1000000 in
theorem digests_any (v : Value) (l : List Bytes) (w : World) (hL : StrsAt w.heap.size w v l) :
    Calls Tryd.prog 49 #[v] w fun e w' => e = .returned (.bool (digB l)) ∧ Below w.heap.size w w' := by
  obtain ⟨a, c, rfl, hac, hcm⟩ := hL.shape
  unfold maxLen at hcm
  have HA := Lib.hid hL
  clear hL
  generalize hn : l.length = n at *
  have Hn := Lib.hid hn
  clear hn
  go_enter Tryd.func49, Tryd.ntmps49
  go_wp2
  go_loopw [3] (fun i wr => ∃ k : Nat, k ≤ n ∧ i = .int .i64 k ∧ Hid (digB (l.take k) = true) ∧ Below w.heap.size w wr) (fun i _ => n - (intOf i).toNat)
  case atStart => exact ⟨0, Nat.zero_le _, rfl, rfl, Below.refl _ _⟩
  case round =>
    obtain ⟨k, hk, rfl, HC, hW⟩ := hrel
    by_cases h1 : k < n
    · obtain ⟨b, off, rfl, hb, q1⟩ := HA.out.at k (by rw [Hn.out]; exact h1)
      have p1 := (hW.cell (p := ⟨b, off + k, none⟩) hb).trans q1
      have HC2 := Lib.hid (digB_succ l k (by rw [Hn.out]; exact h1))
      rw [HC.out, Bool.true_and] at HC2
      have HC3 := Lib.hid (digB_no l k (by rw [Hn.out]; exact h1))
      generalize l.getD k [] = x at *
      have hsz := bs_size x
      generalize bs x = X at *
      have kk1 : (k : Int) < (n : Int) := by omega
      clear q1
      by_cases h32 : x.length = 32
      · have HD : Hid (digB (l.take (k + 1)) = true) := by show _ = _; rw [HC2.out]; simpa using h32
        have he : (((X.size : Nat) : Int) == 32) = true := by rw [hsz, h32]; rfl
        have he2 : (((X.size : Nat) : Int) != 32) = false := by rw [bne, he]; rfl
        clear h32 hsz HC2 HC3
        go_wp2
        go_roundw
        case rel => exact ⟨k + 1, by omega, by go_num, HD, hW⟩
        case measure => simp [intOf]; omega
      · have HD := Lib.hid (HC3.out h32)
        have he : (((X.size : Nat) : Int) == 32) = false := by rw [hsz]; simp; omega
        have he2 : (((X.size : Nat) : Int) != 32) = true := by rw [bne, he]; rfl
        clear h32 hsz HC2 HC3
        go_wp2
        go_ret
        exact ⟨by rw [HD.out]; rfl, hW⟩
    · obtain rfl : k = n := by omega
      have HR : Hid (digB l = true) := by
        have := HC.out
        rw [List.take_of_length_le (by rw [Hn.out]; exact Nat.le_refl _)] at this
        exact this
      go_wp2
      go_ret
      exact ⟨by rw [HR.out]; rfl, hW⟩
end Go.Proofs.YteemhemnkdgehaaDoor
