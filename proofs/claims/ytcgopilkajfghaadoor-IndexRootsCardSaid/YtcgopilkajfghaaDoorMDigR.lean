import Derived.Test.YtcgopilkajfghaaDoorMRefB
import Derived.Deep.RegionHeld3
import Derived.Deep.AppendLies
import Derived.Maps.AppendAt
import Derived.Test.YtcgopilkajfghaaDoorMCalm
set_option linter.unusedVariables false
set_option linter.unusedSimpArgs false

section
/- Small facts that the laws of digest and its reference share; the reference's Left, Same, Digests. -/
set_option linter.unusedVariables false
set_option linter.unusedSimpArgs false
namespace Go.Proofs.YtcgopilkajfghaaDoor
open Go.RowKit Go.Shelf

theorem extract_bs (x : Bytes) (q : Nat) : (bs x).extract 0 q = bs (x.take q) := by
  apply ByteArray.ext
  apply Array.ext'
  simp [bs, ByteArray.data_extract]
theorem leftN_exit {n e : Nat} (h : 2 ^ e < n) (h2 : (n : Int) - ((2 ^ e : Nat) : Int) ≤ ((2 ^ e : Nat) : Int)) : leftN n = 2 ^ e := leftN_of h (by rw [Nat.pow_succ]; omega)
theorem refLeft_any (n : Nat) (w : World) (h2 : 2 ≤ n) (hn : n ≤ 9223372036854775807) :
    Calls Tryd.prog 56 #[.int .i64 n] w fun e w' => e = .returned (.int .i64 (leftN n : Nat)) ∧ w = w' := by
  have HX : Hid (∀ e, 2 ^ e < n → (n : Int) - ((2 ^ e : Nat) : Int) ≤ ((2 ^ e : Nat) : Int) → leftN n = 2 ^ e) := fun e h h' => leftN_exit h h'
  go_enter Tryd.func56, Tryd.ntmps56
  go_wp2
  go_loop [3] (fun s => ∃ k : Nat, 1 ≤ k ∧ k < n ∧ s = .int .i64 k ∧ Hid (∃ e, k = 2 ^ e)) (fun s => n - (intOf s).toNat)
  case atStart => exact ⟨1, by omega, by omega, rfl, 0, rfl⟩
  case round =>
    obtain ⟨k, hk1, hkn, rfl, HE⟩ := hrel
    have w1 : IntKind.i64.wrap ((n : Int) - (k : Int)) = (n : Int) - (k : Int) := IntWalk.i64_in _ (by omega)
    by_cases hlt : (k : Int) < (n : Int) - (k : Int)
    · have w2 : IntKind.i64.wrap (2 * (k : Int)) = 2 * (k : Int) := IntWalk.i64_in _ (by omega)
      go_wp2
      go_round
      case rel =>
        refine ⟨2 * k, by omega, by omega, by go_num, ?_⟩
        obtain ⟨e, he⟩ := HE
        exact ⟨e + 1, by rw [he, Nat.pow_succ]; omega⟩
      case measure => simp [intOf]; omega
    · have HR : Hid (leftN n = k) := by
        obtain ⟨e, he⟩ := HE
        subst he
        exact HX.out e hkn (by omega)
      go_wp2
      go_ret
      exact ⟨by rw [HR.out]; rfl, rfl⟩
/-- What few and the cut of an entry make. -/
theorem cut_size (s : ByteArray) (q : Nat) (h : (q : Int) ≤ 60) : (s.extract 0 q).size ≤ 60 := by rw [ByteArray.size_extract]; omega
theorem bind_plain {root s t : Bytes} {n i : Int} {p q : List Bytes} (h1 : verB root n i s p = true) (h2 : verB root n i t q = true) (hne : s ≠ t) :
    0 ≤ i ∧ i < n ∧ collB (wayR p.reverse n.toNat i.toNat s).1 (wayR q.reverse n.toNat i.toNat t).1 = true := by
  unfold verB at h1 h2
  simp only [Bool.and_eq_true, decide_eq_true_eq, beq_iff_eq] at h1 h2
  obtain ⟨⟨⟨h3, h4⟩, h5⟩, h6⟩ := h1
  obtain ⟨⟨_, h7⟩, h8⟩ := h2
  have hd : ∀ l : List Bytes, digB l = true → ∀ x ∈ l.reverse, x.length = 32 := fun l hl x hx => by
    have := List.all_eq_true.1 hl x (List.mem_reverse.1 hx)
    simpa using this
  exact ⟨h3, h4, binding p.reverse q.reverse n.toNat i.toNat s t root (hd p h5) (hd q h7) hne h6 h8⟩
theorem wayR_el (p : List Bytes) : ∀ (n i : Nat) (s : Bytes), s.length ≤ 1000 → (∀ x ∈ p, x.length ≤ 1000) → ∀ x ∈ (wayR p n i s).1, x.length ≤ 1000000 := by
  induction p with
  | nil => intro n i s hs _ x hx; simp [wayR] at hx; rw [hx]; simp; omega
  | cons y t ih =>
    intro n i s hs hp x hx
    unfold wayR at hx
    have hy := hp y (by simp)
    have ht : ∀ z ∈ t, z.length ≤ 1000 := fun z hz => hp z (by simp [hz])
    split at hx
    · simp at hx; rw [hx]; simp; omega
    · split at hx
      · rcases List.mem_cons.1 hx with rfl | hx
        · have := (wayR_len t (leftN n) i s).2
          simp; omega
        · exact ih _ _ _ hs ht x hx
      · rcases List.mem_cons.1 hx with rfl | hx
        · have := (wayR_len t (n - leftN n) (i - leftN n) s).2
          simp; omega
        · exact ih _ _ _ hs ht x hx
theorem blen (s : ByteArray) : s.data.toList.length = s.size := by rw [Array.length_toList]; rfl
theorem str_eq (x y : ByteArray) : (x.toList == y.toList) = decide (x.data.toList = y.data.toList) := by
  rw [Lib.toList_data, Lib.toList_data, Bool.eq_iff_iff]; simp
theorem cut_min (s : ByteArray) (N : Int) (hN : 0 ≤ N) : ∃ m : Nat, min ((s.size : Nat) : Int) N = (m : Int) ∧ m ≤ s.size ∧ (m : Int) ≤ N :=
  ⟨min s.size N.toNat, by omega, by omega, by omega⟩
theorem rootL_eqs (l : List Bytes) (s : Bytes) (h : l.length = 0) : rootL (l ++ [s]) = leafB s ∧ rootL l = sha [] := by
  obtain rfl : l = [] := List.eq_nil_of_length_eq_zero h
  exact ⟨rootL_one s, rfl⟩
theorem Sm.snoc {l : List Bytes} (h : Sm l) (hl : l.length ≤ 1000) (s : Bytes) (hs : s.length ≤ 1000) : Sm (l ++ [s]) := ⟨by rw [List.length_append, List.length_singleton]; omega, fun x hx => by
  rcases List.mem_append.1 hx with hx | hx
  · exact h.2 x hx
  · rw [List.mem_singleton.1 hx]; exact hs⟩
theorem bs_self (x y : Bytes) (h : x = y) : ((bs x).toList == (bs y).toList) = true := by rw [h]; exact beq_self_eq_true _
theorem zip_take {α β : Type} : ∀ (k : Nat) (a : List α) (b : List β), (a.take k).zip (b.take k) = (a.zip b).take k
  | 0, _, _ => by simp
  | k + 1, [], _ => by simp
  | k + 1, _ :: _, [] => by simp
  | k + 1, x :: a, y :: b => by simp [zip_take k a b]
theorem bs_eq_list (x y : Bytes) : ((bs x).toList == (bs y).toList) = (x == y) := by rw [bs_toList, bs_toList]
theorem same_succ (a b : List Bytes) (k : Nat) (ha : k < a.length) (hb : k < b.length) : (a.take (k + 1) == b.take (k + 1)) = (a.take k == b.take k && a.getD k [] == b.getD k []) := by
  rw [take_getD a [] k ha, take_getD b [] k hb, Bool.eq_iff_iff]
  simp only [beq_iff_eq, Bool.and_eq_true]
  constructor
  · intro h
    have := List.append_inj h (by rw [List.length_take, List.length_take]; omega)
    exact ⟨this.1, by simpa using this.2⟩
  · rintro ⟨h1, h2⟩
    rw [h1, h2]
theorem same_no (a b : List Bytes) (k : Nat) (h : (a.getD k [] == b.getD k []) = false) : (a == b) = false := by
  rw [beq_eq_false_iff_ne] at h ⊢
  intro e
  rw [e] at h
  exact h rfl
theorem digB_succ (l : List Bytes) (k : Nat) (h : k < l.length) : digB (l.take (k + 1)) = (digB (l.take k) && decide ((l.getD k []).length = 32)) := by
  rw [take_getD l [] k h]
  unfold digB
  rw [List.all_append]
  simp
theorem digB_no (l : List Bytes) (k : Nat) (h : k < l.length) (hne : ¬ (l.getD k []).length = 32) : digB l = false := by
  unfold digB
  rw [List.all_eq_false]
  exact ⟨_, getD_mem' l [] k h, by simpa using hne⟩
end Go.Proofs.YtcgopilkajfghaaDoor
end

section
/- The reference's Collided. -/
set_option linter.unusedVariables false
set_option linter.unusedSimpArgs false
namespace Go.Proofs.YtcgopilkajfghaaDoor
open Go.RowKit Go.Shelf

theorem any_take_succD (l : List Bytes) (p : Bytes → Bool) (k : Nat) (h : k < l.length) : (l.take (k + 1)).any p = ((l.take k).any p || p (l.getD k [])) := by
  rw [take_getD l [] k h, List.any_append]
  simp
theorem any_hit (l : List Bytes) (p : Bytes → Bool) (k : Nat) (h : k < l.length) (hp : p (l.getD k []) = true) : l.any p = true :=
  List.any_eq_true.2 ⟨_, getD_mem' l [] k h, hp⟩
/-- Two strings collide. -/
def coll2 (x y : Bytes) : Bool := x != y && sha x == sha y
theorem meet_eq (a b : List Bytes) : meetB a b = a.any fun x => b.any (coll2 x) := rfl
set_option maxRecDepth 100000 in
set_option maxHeartbeats 2000000 in
theorem collided_any (va vb : Value) (la lb : List Bytes) (w : World) (hA : StrsAt w.heap.size w va la) (hB : StrsAt w.heap.size w vb lb) (hla : ∀ x ∈ la, x.length ≤ 1000000) (hlb : ∀ x ∈ lb, x.length ≤ 1000000) (hl : lb.length ≤ 1000000) :
    Calls Tryd.prog 32 #[va, vb] w fun e w' => e = .returned (.bool (meetB la lb)) ∧ Below w.heap.size w w' := by
  obtain ⟨a, c, rfl, hac, hcm⟩ := hA.shape
  obtain ⟨a', c', rfl, hac', hcm'⟩ := hB.shape
  unfold maxLen at hcm hcm'
  have HA := Lib.hid hA
  have HB := Lib.hid hB
  have HLa := Lib.hid hla
  have HLb := Lib.hid hlb
  clear hA hB hla hlb
  generalize hn : la.length = n at *
  have Hn := Lib.hid hn
  generalize hm : lb.length = m at *
  have Hm := Lib.hid hm
  clear hn hm
  go_enter Tryd.func32, Tryd.ntmps32
  go_wp2
  go_loopw [5, 6] (fun sv i wr => ∃ k : Nat, k ≤ m ∧ i = .int .i64 k ∧ OwnS w.heap.size wr sv ((lb.take k).map sha) ∧ Below w.heap.size w wr) (fun _ i _ => m - (intOf i).toNat)
  case atStart => exact ⟨0, Nat.zero_le _, rfl, OwnS.nil _ _, Below.refl _ _⟩
  case round =>
    obtain ⟨k, hk, rfl, hO, hW⟩ := hrel
    have hz := hW.size
    have HO := Lib.hid hO
    clear hO
    by_cases h1 : k < m
    · obtain ⟨b, off, rfl, hb, q1⟩ := HB.out.at k (by rw [Hm.out]; exact h1)
      have p1 := (hW.cell (p := ⟨b, off + k, none⟩) hb).trans q1
      have hyl := HLb.out _ (getD_mem' lb [] k (by rw [Hm.out]; exact h1))
      have HS1 : Hid ((lb.take (k + 1)).map sha = (lb.take k).map sha ++ [sha (lb.getD k [])]) := by
        show _ = _
        rw [take_getD lb [] k (by rw [Hm.out]; exact h1), List.map_append]
        rfl
      have hml : ((lb.take k).map sha).length = k := by rw [List.length_map, List.length_take, Hm.out]; omega
      have HSm := Lib.hid (fun W : World => refSum_any (bs (lb.getD k [])) W (by rw [bs_size]; omega))
      rw [bs_list] at HSm
      have HMl := Lib.hid hml
      generalize (lb.take k).map sha = sl at *
      generalize sha (lb.getD k []) = z at *
      generalize bs (lb.getD k []) = Y at *
      have HW := Lib.hid hW
      have kk1 : (k : Int) < (m : Int) := by omega
      have HLit := Lib.hid (fun (W : World) (h : w.heap.size ≤ W.heap.size) => ownS_lit W w.heap.size z h)
      clear q1 hml hW
      go_wp2_with fail
      refine (HSm.out _).mono ?_
      rintro e w2 ⟨rfl, hb2⟩
      have hz2 := hb2.size
      have hB2 := HW.out.trans (hb2.mono hz)
      have hO2 := HO.out.below hb2 (Nat.le_refl _)
      have HB2 := Lib.hid hB2
      have HO2 := Lib.hid hO2
      clear hb2 hB2 hO2
      go_wp2_with (at_builtin; refine append_SS rfl _ _ rfl w.heap.size w.heap.size u5 _ sl [z] rfl rfl (World.ownsRow.alloc HO2.out _) (HLit.out _ (by omega)) (by rw [HMl.out]; simp; omega) (by simp; omega) w (HB2.out.alloc (by omega) _) ?_; intro v5 w3 hO3 hg3 hb3; have HO3 := Lib.hid hO3; clear hO3)
      go_roundw
      case rel => exact ⟨k + 1, by omega, by go_num, by rw [HS1.out]; exact HO3.out, hb3⟩
      case measure => simp [intOf]; omega
    · obtain rfl : k = m := by omega
      have HSh := HO.out
      rw [List.take_of_length_le (by rw [Hm.out]; exact Nat.le_refl _)] at HSh
      obtain ⟨sa, sc, hsv, hsc1, hsc2⟩ := HSh.strs.shape
      rw [List.length_map, Hm.out] at hsv hsc1
      unfold maxLen at hsc2
      subst hsv
      have HO := Lib.hid HSh
      clear HSh
      have Hml : Hid ((lb.map sha).length = k) := by show _ = _; rw [List.length_map, Hm.out]
      go_wp2
      go_loopw [7] (fun i wr2 => ∃ j : Nat, j ≤ n ∧ i = .int .i64 j ∧ Hid (((la.take j).any fun x => lb.any (coll2 x)) = false) ∧ Hid (OwnS w.heap.size wr2 (.slice sa k sc) (lb.map sha)) ∧ Below w.heap.size w wr2) (fun i _ => n - (intOf i).toNat)
      case atStart => exact ⟨0, Nat.zero_le _, rfl, rfl, HO, hW⟩
      case round =>
        clear HO hW hz
        obtain ⟨j, hj, rfl, HC, HO, hW⟩ := hrel
        have hz := hW.size
        by_cases h2 : j < n
        · obtain ⟨b, off, rfl, hb, q1⟩ := HA.out.at j (by rw [Hn.out]; exact h2)
          have HQ1 := Lib.hid (fun (W : World) (hW : Below w.heap.size w W) => (hW.cell (p := ⟨b, off + j, none⟩) hb).trans q1)
          have p1 := HQ1.out _ hW
          have hxl := HLa.out _ (getD_mem' la [] j (by rw [Hn.out]; exact h2))
          have HSm := Lib.hid (fun W : World => refSum_any (bs (la.getD j [])) W (by rw [bs_size]; omega))
          rw [bs_list] at HSm
          have HC2 := Lib.hid (any_take_succD la (fun x => lb.any (coll2 x)) j (by rw [Hn.out]; exact h2))
          rw [HC.out, Bool.false_or] at HC2
          have HC3 := Lib.hid (any_hit la (fun x => lb.any (coll2 x)) j (by rw [Hn.out]; exact h2))
          generalize la.getD j [] = x at *
          have HW := Lib.hid hW
          have kk1 : (j : Int) < (n : Int) := by omega
          clear q1 hW HC
          go_wp2_with fail
          refine (HSm.out _).mono ?_
          rintro e w2 ⟨rfl, hb2⟩
          have hz2 := hb2.size
          have hB2 := HW.out.trans (hb2.mono hz)
          have HO2 := Lib.hid (HO.out.below hb2 (Nat.le_refl _))
          have HB2 := Lib.hid hB2
          clear hb2 hB2 HO HW p1
          go_wp2
          go_loopw [9] (fun i wr3 => ∃ l : Nat, l ≤ k ∧ i = .int .i64 l ∧ Hid ((lb.take l).any (coll2 x) = false) ∧ Hid (OwnS w.heap.size wr3 (.slice sa k sc) (lb.map sha)) ∧ Below w.heap.size w wr3) (fun i _ => k - (intOf i).toNat)
          case atStart => exact ⟨0, Nat.zero_le _, rfl, rfl, HO2, HB2.out⟩
          case round =>
            clear HO2 HB2 hz2 hz
            obtain ⟨l, hl', rfl, HD, HO, hW⟩ := hrel
            have hz := hW.size
            by_cases h3 : l < k
            · obtain ⟨b', off', rfl, hb', q2⟩ := HB.out.at l (by rw [Hm.out]; exact h3)
              obtain ⟨b3, off3, rfl, hb3, q3⟩ := HO.out.strs.at l (by rw [Hml.out]; exact h3)
              have p1 := HQ1.out _ hW
              have p2 := (hW.cell (p := ⟨b', off' + l, none⟩) hb').trans q2
              have hgd : (lb.map sha).getD l [] = sha (lb.getD l []) := by
                rw [List.getD_eq_getElem?_getD, List.getD_eq_getElem?_getD, List.getElem?_map, List.getElem?_eq_getElem (by rw [Hm.out]; exact h3)]
                rfl
              rw [hgd] at q3
              have HD2 := Lib.hid (any_take_succD lb (coll2 x) l (by rw [Hm.out]; exact h3))
              rw [HD.out, Bool.false_or] at HD2
              have HD3 := Lib.hid (any_hit lb (coll2 x) l (by rw [Hm.out]; exact h3))
              generalize lb.getD l [] = y at *
              have Hc : Hid (coll2 x y = (x != y && sha x == sha y)) := rfl
              have hc1 := bs_eq_list x y
              have hc2 := bs_eq_list (sha x) (sha y)
              generalize sha x = sx at *
              generalize sha y = sy at *
              have kk2 : (l : Int) < (k : Int) := by omega
              clear q2 hgd
              by_cases hxy : x = y
              · have HR : Hid ((lb.take (l + 1)).any (coll2 x) = false) := by
                  show _ = _
                  rw [HD2.out, Hc.out, hxy, show (y != y) = false from by simp]
                  rfl
                have hc3 : ((bs x).toList == (bs y).toList) = true := by rw [hc1, hxy]; exact beq_self_eq_true _
                clear hc1 hc2 HD2 HD3 hxy Hc
                generalize bs x = X at *
                generalize bs y = Y at *
                have hc4 : (X.toList != Y.toList) = false := by rw [bne, hc3]; rfl
                go_wp2
                go_quiet (fail)
                go_wp2
                go_roundw
                case rel => exact ⟨l + 1, by omega, by go_num, HR, Lib.hid (HO.out.below (below_drewN0 (Below.refl _ _) _) (Nat.le_refl _)), below_drewN0 hW _⟩
                case measure => simp [intOf]; omega
              · have hc3 : ((bs x).toList == (bs y).toList) = false := by rw [hc1]; exact beq_eq_false_iff_ne.2 hxy
                by_cases hss : sx = sy
                · have HF : Hid ((la.any fun x => lb.any (coll2 x)) = true) := by
                    show _ = _
                    exact HC3.out (HD3.out (by rw [Hc.out, hss]; simp [hxy]))
                  have hc6 : ((bs sx).toList == (bs sy).toList) = true := by rw [hc2, hss]; exact beq_self_eq_true _
                  clear hc1 hc2 HD2 HD3 hxy hss Hc
                  generalize bs x = X at *
                  generalize bs y = Y at *
                  generalize bs sx = SX at *
                  generalize bs sy = SY at *
                  have hc4 : (X.toList != Y.toList) = true := by rw [bne, hc3]; rfl
                  go_wp2
                  go_quiet (fail)
                  go_wp2
                  go_ret
                  exact ⟨by rw [meet_eq, HF.out]; rfl, below_drewN0 hW _⟩
                · have HR : Hid ((lb.take (l + 1)).any (coll2 x) = false) := by
                    show _ = _
                    rw [HD2.out, Hc.out, beq_eq_false_iff_ne.2 hss, Bool.and_false]
                  have hc6 : ((bs sx).toList == (bs sy).toList) = false := by rw [hc2]; exact beq_eq_false_iff_ne.2 hss
                  clear hc1 hc2 HD2 HD3 hxy hss Hc
                  generalize bs x = X at *
                  generalize bs y = Y at *
                  generalize bs sx = SX at *
                  generalize bs sy = SY at *
                  have hc4 : (X.toList != Y.toList) = true := by rw [bne, hc3]; rfl
                  go_wp2
                  go_quiet (fail)
                  go_wp2
                  go_roundw
                  case rel => exact ⟨l + 1, by omega, by go_num, HR, Lib.hid (HO.out.below (below_drewN0 (Below.refl _ _) _) (Nat.le_refl _)), below_drewN0 hW _⟩
                  case measure => simp [intOf]; omega
            · obtain rfl : l = k := by omega
              have HF : Hid (((la.take (j + 1)).any fun x => lb.any (coll2 x)) = false) := by
                have := HD.out
                rw [List.take_of_length_le (by rw [Hm.out]; exact Nat.le_refl _)] at this
                show _ = _
                rw [HC2.out]
                exact this
              go_wp2
              go_roundw
              case rel => exact ⟨j + 1, by omega, by go_num, HF, HO, hW⟩
              case measure => simp [intOf]; omega
        · obtain rfl : j = n := by omega
          have HF : Hid (meetB la lb = false) := by
            have := HC.out
            rw [List.take_of_length_le (by rw [Hn.out]; exact Nat.le_refl _)] at this
            exact this
          go_wp2
          go_ret
          exact ⟨by rw [HF.out]; rfl, hW⟩
end Go.Proofs.YtcgopilkajfghaaDoor
end

section
/- append of strings as a step of a region that draws. -/
set_option linter.unusedVariables false
set_option linter.unusedSimpArgs false
namespace Go.Proofs.YtcgopilkajfghaaDoor
open Go.RowKit Go.Shelf

theorem rowS_kept {base : Nat} {l : List Bytes} {v : Value} {W W' : World} {c : Option Nat} (h : OwnS base W v l) (hg : W.grownBy W' c) (hc : ∀ g, c = some g → v.ownBlock ≠ some g) : OwnS base W' v l :=
  World.ownsRow.kept h hg (by
    cases c with
    | none => cases v.ownBlock <;> simp
    | some g => exact .inr (hc g rfl))
/-- append of a list, at one operation. -/
theorem wp_append_SS {o : Oper} {a : Act} {w : World} {K : Act → World → Prop} {Q : Exit → Act → World → Prop} (s x : Operand)
    (ho : o.op = .call { callee := .builtin .append, args := #[s, x], argTypes := #[69, 69] }) (base b2 : Nat) (v sv : Value) (l l2 : List Bytes)
    (hs : a.eval s = v) (hx : a.eval x = sv) (hown : OwnS base w v l) (hsv : OwnS b2 w sv l2) (hlen : l.length + l2.length < 1000000) (hbase : base ≤ w.heap.size)
    (h : ∀ v' w', OwnS base w' v' (l ++ l2) → w.grownBy w' v.ownBlock → (v'.ownBlock = v.ownBlock ∨ v'.ownBlock = some w.heap.size) → K (a.put o.dst v') w') : Oper.wp Tryd.prog o a w K Q := by
  obtain ⟨i0, hi, hz0, hz1, hz2⟩ := info_parts infoS1
  rcases hsv.shape with ⟨rfl, rfl⟩ | ⟨g, cap, rfl, hg1, hg2, hg3, hg4⟩
  · have hr := run_append_owned_none (P := Tryd.prog) (w := w) base 69 o.type 9 i0 1 Tryd.underlying69 hi v l.length _ hown
    unfold Oper.wp execOp
    simp only [ho, resolve, invoke, builtin, Sem.run_bind, Sem.run_pure, Result.andThen_ok, List.map_toArray, List.map_cons, List.map_nil, hs, hx, hr]
    exact h v w (by rw [List.append_nil]; exact hown) ⟨rfl, rfl, rfl, Nat.le_refl _, fun _ _ _ => rfl⟩ (.inl rfl)
  · obtain ⟨v', w', hr, h2, h3, _, h5⟩ := run_append_own_at (P := Tryd.prog) w base 69 o.type 9 i0 (.string (⟨#[]⟩ : ByteArray)) 1 16 Tryd.underlying69 hi hz0 hz1 hz2 rfl (by decide) v l.length _ hown ⟨g, 0, none⟩ l2.length cap (l2.map (fun b => Value.string (bs b))) (by simp) (fun j u hj => World.ownsRow.cells hsv (g := g) rfl j u hj) (fun u hu => by obtain ⟨b, _, rfl⟩ := List.mem_map.1 hu; rfl) (by unfold maxLen; omega) (by omega) hbase
    unfold Oper.wp execOp
    simp only [ho, resolve, invoke, builtin, Sem.run_bind, Sem.run_pure, Result.andThen_ok, List.map_toArray, List.map_cons, List.map_nil, hs, hx, hr]
    refine h v' w' ?_ h3 h5
    unfold OwnS
    rw [List.length_append, List.map_append]
    exact h2
/-- append of a list, as a step of a region that draws. -/
theorem step_append_SS {ops : Array Oper} {o : Oper} {a : Act} {w : World} {K : Act → World → Prop} {Q : Exit → Act → World → Prop} {E : Prop} (hgd : o.guard = none) (s x : Operand)
    (ho : o.op = .call { callee := .builtin .append, args := #[s, x], argTypes := #[69, 69] }) (base b2 : Nat) (v sv : Value) (l l2 : List Bytes)
    (hs : a.eval s = v) (hx : a.eval x = sv) (hown : OwnS base w v l) (hsv : OwnS b2 w sv l2) (hlen : l.length + l2.length < 1000000) (hbase : base ≤ w.heap.size)
    (h : ∀ v' w', OwnS base w' v' (l ++ l2) → w.grownBy w' v.ownBlock → K (a.put o.dst v') w') :
    if Region.wanted o (yielded ops a.tmps) = true then Oper.wp Tryd.prog o a w K Q else E := by
  have hw : Region.wanted o (yielded ops a.tmps) = true := by simp [Region.wanted, hgd]
  rw [if_pos hw]
  exact wp_append_SS s x ho base b2 v sv l l2 hs hx hown hsv hlen hbase fun v' w' h1 h2 _ => h v' w' h1 h2
end Go.Proofs.YtcgopilkajfghaaDoor
end

section
/- The reference's Root and Proof. -/
set_option linter.unusedVariables false
set_option linter.unusedSimpArgs false
namespace Go.Proofs.YtcgopilkajfghaaDoor
open Go.RowKit Go.Shelf

set_option maxRecDepth 100000 in
set_option maxHeartbeats 2000000 in
theorem refRoot_step (l : List Bytes) (v : Value) (w : World) (hS : Sm l) (hL : StrsAt w.heap.size w v l)
    (hrec : ∀ (l' : List Bytes) (v' : Value) (W : World), l'.length < l.length → Sm l' → StrsAt W.heap.size W v' l' → Calls Tryd.prog 57 #[v'] W fun e w' => e = .returned (.string (bs (rootL l'))) ∧ Below W.heap.size W w') :
    Calls Tryd.prog 57 #[v] w fun e w' => e = .returned (.string (bs (rootL l))) ∧ Below w.heap.size w w' := by
  obtain ⟨a, c, rfl, hlc, hcm⟩ := hL.shape
  unfold maxLen at hcm
  by_cases h0 : l.length = 0
  · have HR : Hid (rootL l = sha []) := by rw [List.eq_nil_of_length_eq_zero h0]; rfl
    have HSm := Lib.hid (refSum_any (⟨#[]⟩ : ByteArray) w (by decide))
    rw [show ((⟨#[]⟩ : ByteArray).data.toList) = [] from rfl] at HSm
    rw [h0]
    clear hrec hS hL
    go_enter Tryd.func57, Tryd.ntmps57
    go_wp2_with (go_at_call 55; refine HSm.out.mono ?_; rintro e w9 ⟨rfl, hb9⟩)
    go_ret
    exact ⟨by rw [HR.out]; rfl, hb9⟩
  · by_cases h1 : l.length = 1
    · obtain ⟨b, off, rfl, hb, hcl⟩ := hL.at 0 (by omega)
      have HR : Hid (rootL l = leafB (l.getD 0 [])) := by
        match l, h1 with
        | [x], _ => exact rootL_one x
      have hxl := hS.2 _ (getD_mem' l [] 0 (by omega))
      have HLf := Lib.hid (refLeaf_any (bs (l.getD 0 [])) w (by rw [bs_size]; omega))
      rw [bs_list] at HLf
      rw [h1]
      have hcl' : w.cell? ⟨b, off, none⟩ = some (.string (bs (l.getD 0 []))) := hcl
      clear hrec hS hL
      generalize l.getD 0 [] = x at *
      generalize bs x = X at *
      go_enter Tryd.func57, Tryd.ntmps57
      go_wp2_with (go_at_call 74; refine HLf.out.mono ?_; rintro e w9 ⟨rfl, hb9⟩)
      go_ret
      exact ⟨by rw [HR.out]; rfl, hb9⟩
    · have h2 : 2 ≤ l.length := by omega
      have hlb := leftN_bd h2
      obtain ⟨b, off, ha⟩ := hL.addr (by omega)
      subst ha
      have hTk := hL.take (leftN l.length) (by omega)
      have hDr := hL.drop (leftN l.length) (by omega)
      have HT1 := Lib.hid (fun W (hW : Below w.heap.size w W) => (hrec (l.take (leftN l.length)) _ W (by rw [List.length_take]; omega) (hS.take _) (hTk.later hW (Nat.le_refl _))).mono fun e w' (h : _ ∧ _) => And.intro h.1 (hW.trans (h.2.mono hW.size)))
      have HT2 := Lib.hid (fun W (hW : Below w.heap.size w W) => (hrec (l.drop (leftN l.length)) _ W (by rw [List.length_drop]; omega) (hS.drop _) (hDr.later hW (Nat.le_refl _))).mono fun e w' (h : _ ∧ _) => And.intro h.1 (hW.trans (h.2.mono hW.size)))
      have HR := Lib.hid (rootL_split h2)
      have hln := hS.1
      clear hrec hS hTk hDr hL
      have HNd := Lib.hid (fun W (hW : Below w.heap.size w W) => (refNode_any (bs (rootL (l.take (leftN l.length)))) (bs (rootL (l.drop (leftN l.length)))) W (by rw [bs_size, rootL_length]; decide) (by rw [bs_size, rootL_length]; decide)).mono fun e w' (h : _ ∧ _) => And.intro h.1 (hW.trans (h.2.mono hW.size)))
      rw [bs_list, bs_list] at HNd
      have HLt := Lib.hid (fun W => refLeft_any l.length W h2 (by omega))
      generalize l.length = N at *
      generalize leftN N = K at *
      generalize rootL (l.take K) = r1 at *
      generalize rootL (l.drop K) = r2 at *
      have e1 : (K : Int) ≤ (N : Int) := by omega
      have e3 : (K : Int) ≤ (c : Int) := by omega
      have e4 : (N : Int) ≤ (c : Int) := by omega
      have hn0 : ((N : Int) == 0) = false := by simp; omega
      have hn1 : ((N : Int) == 1) = false := by simp; omega
      have hB0 := Below.refl w.heap.size w
      go_enter Tryd.func57, Tryd.ntmps57
      go_wp2_with (go_at_call 56; refine (HLt.out _).mono ?_; rintro e w' ⟨rfl, rfl⟩)
      go_region_held3 (fun W => Below w.heap.size w W) (first | exact hBc | exact hB0.drew)
        (first
          | (go_at_call 57; (with_reducible refine (HT1.out _ (by assumption)).mono ?_); rintro e wc ⟨rfl, hBc⟩)
          | (go_at_call 57; (with_reducible refine (HT2.out _ (by assumption)).mono ?_); rintro e wc ⟨rfl, hBc⟩)
          | (go_at_call 75; (with_reducible refine (HNd.out _ (by assumption)).mono ?_); rintro e wc ⟨rfl, hBc⟩))
      all_goals go_wp2
      all_goals go_ret
      all_goals exact ⟨by rw [HR.out]; rfl, hBc⟩
theorem refRoot_any : ∀ (N : Nat) (l : List Bytes) (v : Value) (w : World), l.length ≤ N → Sm l → StrsAt w.heap.size w v l →
    Calls Tryd.prog 57 #[v] w fun e w' => e = .returned (.string (bs (rootL l))) ∧ Below w.heap.size w w'
  | 0, l, v, w, hN, hS, hL => refRoot_step l v w hS hL (fun l' v' W h _ _ => absurd h (by omega))
  | N + 1, l, v, w, hN, hS, hL => refRoot_step l v w hS hL (fun l' v' W h hS' hL' => refRoot_any N l' v' W (by omega) hS' hL')
end Go.Proofs.YtcgopilkajfghaaDoor
end

section
/- The reference's Hashed. -/
set_option linter.unusedVariables false
set_option linter.unusedSimpArgs false
namespace Go.Proofs.YtcgopilkajfghaaDoor
open Go.RowKit Go.Shelf

theorem hashedL_len : ∀ (n : Nat) (l : List Bytes), l.length ≤ n → 1 ≤ l.length → (hashedL l).length + 1 ≤ 2 * l.length
  | 0, l, h, h1 => by omega
  | n + 1, l, h, h1 => by
    by_cases h2 : 2 ≤ l.length
    · have hb := leftN_bd h2
      have e1 := hashedL_len n (l.take (leftN l.length)) (by rw [List.length_take]; omega) (by rw [List.length_take]; omega)
      have e2 := hashedL_len n (l.drop (leftN l.length)) (by rw [List.length_drop]; omega) (by rw [List.length_drop]; omega)
      rw [List.length_take] at e1
      rw [List.length_drop] at e2
      rw [hashedL_split h2]
      simp only [List.length_append, List.length_singleton]
      omega
    · rw [hashedL_one (by omega)]
      simp
      omega
theorem hashedL_bd (l : List Bytes) : (hashedL l).length ≤ 2 * l.length + 1 := by
  by_cases h : 1 ≤ l.length
  · have := hashedL_len l.length l (Nat.le_refl _) h
    omega
  · rw [List.eq_nil_of_length_eq_zero (by omega : l.length = 0), hashedL_nil]
    simp
theorem hashedL_el : ∀ (n : Nat) (l : List Bytes), l.length ≤ n → (∀ x ∈ l, x.length ≤ 1000) → ∀ x ∈ hashedL l, x.length ≤ 1001
  | n, l, h, hl, x, hx => by
    by_cases h2 : 2 ≤ l.length
    · have hb := leftN_bd h2
      rw [hashedL_split h2] at hx
      match n, h with
      | n + 1, h =>
        rcases List.mem_append.1 hx with hx | hx
        · rcases List.mem_append.1 hx with hx | hx
          · exact hashedL_el n _ (by rw [List.length_take]; omega) (fun y hy => hl y (List.mem_of_mem_take hy)) x hx
          · exact hashedL_el n _ (by rw [List.length_drop]; omega) (fun y hy => hl y (List.mem_of_mem_drop hy)) x hx
        · rw [List.mem_singleton.1 hx]
          simp only [List.length_cons, List.length_append, rootL_length]
          omega
      | 0, h => omega
    · by_cases h1 : l.length = 1
      · rw [hashedL_one h1, List.mem_singleton] at hx
        have := hl _ (getD_mem' l [] 0 (by omega))
        rw [hx, List.length_cons]
        omega
      · rw [List.eq_nil_of_length_eq_zero (by omega : l.length = 0), hashedL_nil, List.mem_singleton] at hx
        rw [hx]
        simp
/-- What the operations leave. -/
def HsF1 (H : Nat) (p q : List Bytes) : Nat → Value → World → Prop
  | 3, v, W => OwnS H W v p
  | 7, v, W => OwnS H W v q
  | _, v, W => OwnS H W v (p ++ q)
theorem HsF1_kept {H k : Nat} {p q : List Bytes} {v : Value} {W W' : World} {c : Option Nat} (h : HsF1 H p q k v W) (hg : W.grownBy W' c) (hc : ∀ g, c = some g → v.ownBlock ≠ some g) : HsF1 H p q k v W' := by
  unfold HsF1 at *
  split at h <;> exact rowS_kept h hg hc
def HsF2 (H : Nat) (v0 : Value) (p : List Bytes) (r s z : Bytes) : Nat → Value → World → Prop
  | 0, v, W => v = v0 ∧ OwnS H W v0 p
  | 4, v, _ => v = .string (bs r)
  | 9, v, _ => v = .string (bs s)
  | 11, v, W => OwnS H W v [z]
  | _, v, W => OwnS H W v (p ++ [z])
theorem HsF2_kept {H k : Nat} {v0 : Value} {p : List Bytes} {r s z : Bytes} {v : Value} {W W' : World} {c : Option Nat} (h : HsF2 H v0 p r s z k v W) (hg : W.grownBy W' c) (hc : ∀ g, c = some g → v.ownBlock ≠ some g) : HsF2 H v0 p r s z k v W' := by
  unfold HsF2 at *
  split at h
  · obtain ⟨rfl, h⟩ := h
    exact ⟨rfl, rowS_kept h hg hc⟩
  · exact h
  · exact h
  · exact rowS_kept h hg hc
  · exact rowS_kept h hg hc
set_option maxRecDepth 100000 in
set_option maxHeartbeats 4000000 in
theorem hashed_step (l : List Bytes) (v : Value) (w : World) (hS : Sm l) (hL : StrsAt w.heap.size w v l)
    (hrec : ∀ (l' : List Bytes) (v' : Value) (W : World), l'.length < l.length → Sm l' → StrsAt W.heap.size W v' l' → Calls Tryd.prog 33 #[v'] W fun e w' => ∃ vp, e = .returned vp ∧ OwnS W.heap.size w' vp (hashedL l') ∧ Below W.heap.size W w') :
    Calls Tryd.prog 33 #[v] w fun e w' => ∃ vp, e = .returned vp ∧ OwnS w.heap.size w' vp (hashedL l) ∧ Below w.heap.size w w' := by
  obtain ⟨a, c, rfl, hlc, hcm⟩ := hL.shape
  unfold maxLen at hcm
  by_cases h0 : l.length = 0
  · have HP : Hid (hashedL l = [[]]) := by show _ = _; rw [List.eq_nil_of_length_eq_zero h0]; exact hashedL_nil
    have h00 : (((l.length : Nat) : Int) == 0) = true := by rw [h0]; rfl
    clear hrec hS hL
    generalize l.length = N at *
    clear h0
    have HO := Lib.hid (ownS_lit w w.heap.size [] (Nat.le_refl _))
    go_enter Tryd.func33, Tryd.ntmps33
    go_wp2
    go_ret
    exact ⟨_, rfl, by rw [HP.out]; exact HO.out, (Below.refl _ _).alloc (Nat.le_refl _) _⟩
  · by_cases h1 : l.length = 1
    · have HP := Lib.hid (hashedL_one h1)
      obtain ⟨b, off, rfl, hb, hcl⟩ := hL.at 0 (by omega)
      have hxl := hS.2 _ (getD_mem' l [] 0 (by omega))
      have hcl' : w.cell? ⟨b, off, none⟩ = some (.string (bs (l.getD 0 []))) := hcl
      have HC := Lib.hid (cat_bs1 0 (l.getD 0 []))
      have HO := Lib.hid (ownS_lit w w.heap.size (0 :: l.getD 0 []) (Nat.le_refl _))
      rw [← HC.out] at HO
      have hno : ¬ (9223372036854775807 < 1 + (bs (l.getD 0 [])).size) := by rw [bs_size]; omega
      rw [h1]
      clear hrec hS hL hcl
      generalize l.getD 0 [] = x at *
      generalize bs x = X at *
      go_enter Tryd.func33, Tryd.ntmps33
      go_wp2
      go_ret
      exact ⟨_, rfl, by rw [HP.out]; exact HO.out, (Below.refl _ _).alloc (Nat.le_refl _) _⟩
    · have h2 : 2 ≤ l.length := by omega
      have hlb := leftN_bd h2
      obtain ⟨b, off, ha⟩ := hL.addr (by omega)
      subst ha
      have hTk := hL.take (leftN l.length) (by omega)
      have hDr := hL.drop (leftN l.length) (by omega)
      have HPl := Lib.hid (hashedL_split h2)
      have HRk := Lib.hid (fun W (hW : Below w.heap.size w W) => (refRoot_any l.length (l.take (leftN l.length)) _ W (by rw [List.length_take]; omega) (hS.take _) (hTk.later hW (Nat.le_refl _))))
      have HRd := Lib.hid (fun W (hW : Below w.heap.size w W) => (refRoot_any l.length (l.drop (leftN l.length)) _ W (by rw [List.length_drop]; omega) (hS.drop _) (hDr.later hW (Nat.le_refl _))))
      have HP1 := Lib.hid (fun W (hW : Below w.heap.size w W) => (hrec (l.take (leftN l.length)) _ W (by rw [List.length_take]; omega) (hS.take _) (hTk.later hW (Nat.le_refl _))))
      have HP2 := Lib.hid (fun W (hW : Below w.heap.size w W) => (hrec (l.drop (leftN l.length)) _ W (by rw [List.length_drop]; omega) (hS.drop _) (hDr.later hW (Nat.le_refl _))))
      have hpl1 : (hashedL (l.take (leftN l.length))).length ≤ 300000 := by have := hashedL_bd (l.take (leftN l.length)); rw [List.length_take] at this; have := hS.1; omega
      have hpl2 : (hashedL (l.drop (leftN l.length))).length ≤ 300000 := by have := hashedL_bd (l.drop (leftN l.length)); rw [List.length_drop] at this; have := hS.1; omega
      have HLt := Lib.hid (fun W => refLeft_any l.length W h2 (by have := hS.1; omega))
      have hNb := hS.1
      clear hrec hS hTk hDr hL
      have hr1 := rootL_length (l.take (leftN l.length))
      have hr2 := rootL_length (l.drop (leftN l.length))
      generalize hashedL (l.take (leftN l.length)) = p at *
      generalize hashedL (l.drop (leftN l.length)) = q at *
      generalize l.length = N at *
      generalize leftN N = K at *
      generalize l.take K = lt at *
      generalize l.drop K = ld at *
      generalize rootL lt = rt at *
      generalize rootL ld = rd at *
      have e1 : (K : Int) ≤ (N : Int) := by omega
      have e3 : (K : Int) ≤ (c : Int) := by omega
      have e4 : (N : Int) ≤ (c : Int) := by omega
      have hcK : ¬ c = K := by omega
      have hn0 : ((N : Int) == 0) = false := by rw [beq_eq_false_iff_ne]; omega
      have hn1 : ((N : Int) == 1) = false := by rw [beq_eq_false_iff_ne]; omega
      have s1 : ¬ (9223372036854775807 < 1 + (bs rt).size) := by rw [bs_size]; omega
      have s2 : ¬ (9223372036854775807 < 1 + (bs rt).size + (bs rd).size) := by rw [bs_size, bs_size]; omega
      have HC : Hid ((⟨#[1]⟩ : ByteArray) ++ bs rt ++ bs rd = bs (1 :: (rt ++ rd))) := by show _ = _; rw [cat_bs1, cat_bs]; rfl
      clear hr1 hr2
      go_enter Tryd.func33, Tryd.ntmps33
      go_wp2_with (go_at_call 56; refine (HLt.out _).mono ?_; rintro e w' ⟨rfl, rfl⟩)
      have HBW : Hid (∀ W, w.grownBy W none → Below w.heap.size w W) := fun W hW => grown_below hW
      refine wp_region_calm ⟨[3, 7, 8], HsF1 w.heap.size p q, fun k => if k = 8 then [3] else [], 99, none, 1000⟩ (by kernel_rfl) (by kernel_rfl) (by kernel_rfl) (fun g h => by cases h) (fun k _ v W W' c h hg hc => HsF1_kept h hg fun g hh => (hc g hh).1) ?_
      iterate 3 (refine calm_quiet (v := ?_) (by rfl) (by rfl) (fun W hW hD => ?_) ?_; rotate_left; (· (clear hD hW; go_simp; try with_reducible rfl)); simp only [Act.put, List.setIfInBounds_toArray, List.set_cons_zero, List.set_cons_succ, Nat.reduceAdd, Nat.zero_add])
      refine calm_makes (by rfl) (by rfl) (fun W hW hD K hK => ?_) (fun v23 => ?_)
      · have hbW := HBW.out W hW
        have hbZ := hbW.size
        refine wp_of_call ?_ ((HP1.out W hbW).mono ?_)
        · clear hD hW hK hbW
          go_simp
          try rfl
        · rintro e w' ⟨vp, he, ho, hb⟩
          exact ⟨_, he, hK _ _ (made_below (OwnS.mono ho hbZ) hb (World.ownsRow.lt ho))⟩
      simp only [Act.put, List.setIfInBounds_toArray, List.set_cons_zero, List.set_cons_succ, Nat.reduceAdd, Nat.zero_add]
      iterate 3 (refine calm_quiet (v := ?_) (by rfl) (by rfl) (fun W hW hD => ?_) ?_; rotate_left; (· (clear hD hW; go_simp; try with_reducible rfl)); simp only [Act.put, List.setIfInBounds_toArray, List.set_cons_zero, List.set_cons_succ, Nat.reduceAdd, Nat.zero_add])
      refine calm_makes (by rfl) (by rfl) (fun W hW hD K hK => ?_) (fun v27 => ?_)
      · have hbW := HBW.out W hW
        have hbZ := hbW.size
        refine wp_of_call ?_ ((HP2.out W hbW).mono ?_)
        · clear hD hW hK hbW
          go_simp
          try rfl
        · rintro e w' ⟨vp, he, ho, hb⟩
          exact ⟨_, he, hK _ _ (made_below (OwnS.mono ho hbZ) hb (World.ownsRow.lt ho))⟩
      simp only [Act.put, List.setIfInBounds_toArray, List.set_cons_zero, List.set_cons_succ, Nat.reduceAdd, Nat.zero_add]
      refine calm_makes (by rfl) (by rfl) (fun W hW hD K hK => ?_) (fun v28 => ?_)
      · have h3 : OwnS w.heap.size W v23 p := hD [] 3 (by kernel_rfl) (by kernel_rfl) (by kernel_rfl)
        have h7 : OwnS w.heap.size W v27 q := hD [] 7 (by kernel_rfl) (by kernel_rfl) (by kernel_rfl)
        exact wp_append_SS (.tmp 23) (.tmp 27) rfl w.heap.size w.heap.size v23 v27 p q rfl rfl h3 h7 (by omega) hW.size (fun v' w' h1 h2 h3 => hK _ _ (made_grown (j := 3) (u := v23) (by kernel_rfl) rfl h1 h2 (fun g hg => ⟨(World.ownsRow.lt h1 g hg).2, grown_own h3 hg⟩)))
      simp only [Act.put, List.setIfInBounds_toArray, List.set_cons_zero, List.set_cons_succ, Nat.reduceAdd, Nat.zero_add]
      iterate 1 (refine calm_quiet (v := ?_) (by rfl) (by rfl) (fun W hW hD => ?_) ?_; rotate_left; (· (clear hD hW; go_simp; try with_reducible rfl)); simp only [Act.put, List.setIfInBounds_toArray, List.set_cons_zero, List.set_cons_succ, Nat.reduceAdd, Nat.zero_add])
      refine calm_nil fun W5 hW5 hF => ?_
      have hO5 : OwnS w.heap.size W5 v28 (p ++ q) := hF 8 (by kernel_rfl) (by kernel_rfl)
      have hLt5 : Hid (∀ g, v28.ownBlock = some g → w.heap.size ≤ g ∧ g < W5.heap.size) := World.ownsRow.lt hO5
      have hB5 := grown_below hW5
      clear HBW
      have HBW : Hid (∀ W, W5.grownBy W v28.ownBlock → Below w.heap.size w W) := fun W hW => hB5.grown hW hB5.size (fun k hk => (hLt5.out k hk).1)
      have HO5 := Lib.hid hO5
      have HB5 := Lib.hid hB5
      clear hF hW5 hO5 hB5
      go_wp2
      refine wp_region_calm ⟨[0, 4, 9, 11, 12], HsF2 w.heap.size v28 (p ++ q) rt rd (1 :: (rt ++ rd)), fun k => if k = 12 then [0] else [], 0, v28.ownBlock, 1000⟩ (by kernel_rfl) (by kernel_rfl) (by kernel_rfl) (fun g h => (hLt5.out g h).2) (fun k _ v W W' c h hg hc => HsF2_kept h hg fun g hh => (hc g hh).1) ?_
      refine calm_makes (by rfl) (by rfl) (fun W hW hD K hK => ?_) (fun v29 => ?_)
      · have hWn : W5.grownBy W none := hW
        refine wp_of_run (v := v28) (w' := W) ?_ (hK _ _ ⟨⟨rfl, rowS_kept HO5.out hWn (fun g hg => by cases hg)⟩, ⟨none, World.grownBy.refl _ _, .inl rfl⟩, fun g hg => ⟨Nat.lt_of_lt_of_le (hLt5.out g hg).2 hWn.size, .inr (.inr ⟨rfl, hg⟩)⟩⟩)
        clear hD hW hK hWn
        go_simp
      simp only [Act.put, List.setIfInBounds_toArray, List.set_cons_zero, List.set_cons_succ, Nat.reduceAdd, Nat.zero_add]
      iterate 3 (refine calm_quiet (v := ?_) (by rfl) (by rfl) (fun W hW hD => ?_) ?_; rotate_left; (· (clear hD hW; go_simp; try with_reducible rfl)); simp only [Act.put, List.setIfInBounds_toArray, List.set_cons_zero, List.set_cons_succ, Nat.reduceAdd, Nat.zero_add])
      refine calm_makes (by rfl) (by rfl) (fun W hW hD K hK => ?_) (fun v33 => ?_)
      · have hbW := HBW.out W hW
        have hbZ := hbW.size
        refine wp_of_call ?_ ((HRk.out W hbW).mono ?_)
        · clear hD hW hK hbW
          go_simp
          try rfl
        · rintro e w' ⟨he, hb⟩
          exact ⟨_, he, hK _ _ (made_plain rfl hb rfl)⟩
      simp only [Act.put, List.setIfInBounds_toArray, List.set_cons_zero, List.set_cons_succ, Nat.reduceAdd, Nat.zero_add]
      refine calm_quiet (v := .string ((⟨#[1]⟩ : ByteArray) ++ bs rt)) (by rfl) (by rfl) (fun W hW hD => ?_) ?_
      · obtain rfl : v33 = .string (bs rt) := hD [] 4 (by kernel_rfl) (by kernel_rfl) (by kernel_rfl)
        clear hD hW
        go_simp
      simp only [Act.put, List.setIfInBounds_toArray, List.set_cons_zero, List.set_cons_succ, Nat.reduceAdd, Nat.zero_add]
      iterate 3 (refine calm_quiet (v := ?_) (by rfl) (by rfl) (fun W hW hD => ?_) ?_; rotate_left; (· (clear hD hW; go_simp; try with_reducible rfl)); simp only [Act.put, List.setIfInBounds_toArray, List.set_cons_zero, List.set_cons_succ, Nat.reduceAdd, Nat.zero_add])
      refine calm_makes (by rfl) (by rfl) (fun W hW hD K hK => ?_) (fun v38 => ?_)
      · have hbW := HBW.out W hW
        have hbZ := hbW.size
        refine wp_of_call ?_ ((HRd.out W hbW).mono ?_)
        · clear hD hW hK hbW
          go_simp
          try rfl
        · rintro e w' ⟨he, hb⟩
          exact ⟨_, he, hK _ _ (made_plain rfl hb rfl)⟩
      simp only [Act.put, List.setIfInBounds_toArray, List.set_cons_zero, List.set_cons_succ, Nat.reduceAdd, Nat.zero_add]
      refine calm_quiet (v := .string ((⟨#[1]⟩ : ByteArray) ++ bs rt ++ bs rd)) (by rfl) (by rfl) (fun W hW hD => ?_) ?_
      · obtain rfl : v38 = .string (bs rd) := hD [] 9 (by kernel_rfl) (by kernel_rfl) (by kernel_rfl)
        clear hD hW
        go_simp
      simp only [Act.put, List.setIfInBounds_toArray, List.set_cons_zero, List.set_cons_succ, Nat.reduceAdd, Nat.zero_add]
      refine calm_makes (by rfl) (by rfl) (fun W hW hD K hK => ?_) (fun v40 => ?_)
      · have hbW := HBW.out W hW
        have ho := ownS_lit W W.heap.size (1 :: (rt ++ rd)) (Nat.le_refl _)
        rw [← HC.out] at ho
        refine wp_of_run (v := .slice (some ⟨W.heap.size, 0, none⟩) 1 1) (w' := W.alloc (.cells #[.string ((⟨#[1]⟩ : ByteArray) ++ bs rt ++ bs rd)] 9)) ?_ (hK _ _ (made_below (OwnS.mono ho hbW.size) ((Below.refl _ _).alloc (Nat.le_refl _) _) (World.ownsRow.lt ho)))
        clear hD hW hK ho hbW
        go_simp
      simp only [Act.put, List.setIfInBounds_toArray, List.set_cons_zero, List.set_cons_succ, Nat.reduceAdd, Nat.zero_add]
      refine calm_makes (by rfl) (by rfl) (fun W hW hD K hK => ?_) (fun v41 => ?_)
      · obtain ⟨h29, hrow⟩ : v29 = v28 ∧ OwnS w.heap.size W v28 (p ++ q) := hD [] 0 (by kernel_rfl) (by kernel_rfl) (by kernel_rfl)
        have h40 : OwnS w.heap.size W v40 [1 :: (rt ++ rd)] := hD [] 11 (by kernel_rfl) (by kernel_rfl) (by kernel_rfl)
        subst h29
        exact wp_append_SS (.tmp 29) (.tmp 40) rfl w.heap.size w.heap.size v29 v40 (p ++ q) [1 :: (rt ++ rd)] rfl rfl hrow h40 (by simp; omega) (HBW.out W hW).size (fun v' w' h1 h2 h3 => hK _ _ (made_grown (j := 0) (u := v29) (by kernel_rfl) rfl h1 h2 (fun g hg => ⟨(World.ownsRow.lt h1 g hg).2, grown_own h3 hg⟩)))
      simp only [Act.put, List.setIfInBounds_toArray, List.set_cons_zero, List.set_cons_succ, Nat.reduceAdd, Nat.zero_add]
      iterate 1 (refine calm_quiet (v := ?_) (by rfl) (by rfl) (fun W hW hD => ?_) ?_; rotate_left; (· (clear hD hW; go_simp; try with_reducible rfl)); simp only [Act.put, List.setIfInBounds_toArray, List.set_cons_zero, List.set_cons_succ, Nat.reduceAdd, Nat.zero_add])
      refine calm_nil fun W hW hF => ?_
      have hO6 : OwnS w.heap.size W v41 (p ++ q ++ [1 :: (rt ++ rd)]) := hF 12 (by kernel_rfl) (by kernel_rfl)
      have HO6 := Lib.hid hO6
      have HB6 := Lib.hid (HBW.out W hW)
      clear hF hW hO6
      go_wp2
      go_ret
      exact ⟨_, rfl, by rw [HPl.out]; exact HO6.out, HB6.out⟩
theorem hashed_any : ∀ (N : Nat) (l : List Bytes) (v : Value) (w : World), l.length ≤ N → Sm l → StrsAt w.heap.size w v l →
    Calls Tryd.prog 33 #[v] w fun e w' => ∃ vp, e = .returned vp ∧ OwnS w.heap.size w' vp (hashedL l) ∧ Below w.heap.size w w'
  | 0, l, v, w, hN, hS, hL => hashed_step l v w hS hL (fun l' v' W h _ _ => absurd h (by omega))
  | N + 1, l, v, w, hN, hS, hL => hashed_step l v w hS hL (fun l' v' W h hS' hL' => hashed_any N l' v' W (by omega) hS' hL')
end Go.Proofs.YtcgopilkajfghaaDoor
end
