/- DigestBinding returns true. -/
import Derived.Test.YteemhemnkdgehaaDoorDSane
import Derived.Test.YteemhemnkdgehaaDoorDLaid
namespace Go.Proofs.YteemhemnkdgehaaDoor
open Go.RowKit Go.Shelf

/-- What few and the cut of an entry make. -/
theorem cut_size (s : ByteArray) (q : Nat) (h : (q : Int) ≤ 60) : (s.extract 0 q).size ≤ 60 := by rw [ByteArray.size_extract]; omega
theorem bind_plain {root s t : Bytes} {n i : Int} {p q : List Bytes} (h1 : verB root n i s p = true) (h2 : verB root n i t q = true) (hne : s ≠ t) :
    0 ≤ i ∧ i < n ∧ collB (wayR p.reverse n.toNat i.toNat s).1 (wayR q.reverse n.toNat i.toNat t).1 = true := by
  unfold verB at h1 h2
  simp only [Bool.and_eq_true, decide_eq_true_eq, beq_iff_eq] at h1 h2
  obtain ⟨⟨⟨h3, h4⟩, h5⟩, h6⟩ := h1
  obtain ⟨⟨_, h7⟩, h8⟩ := h2
  have hd : ∀ l : List Bytes, digB l = true → ∀ x ∈ l.reverse, x.length = 32 := fun l hl x hx => by
    have := List.all_eq_true.1 hl x (List.mem_reverse.1 hx)
    simpa using this
  exact ⟨h3, h4, binding p.reverse q.reverse n.toNat i.toNat s t root (hd p h5) (hd q h7) hne h6 h8⟩
theorem wayR_el (p : List Bytes) : ∀ (n i : Nat) (s : Bytes), s.length ≤ 1000 → (∀ x ∈ p, x.length ≤ 1000) → ∀ x ∈ (wayR p n i s).1, x.length ≤ 1000000 := by
  induction p with
  | nil => intro n i s hs _ x hx; simp [wayR] at hx; rw [hx]; simp; omega
  | cons y t ih =>
    intro n i s hs hp x hx
    unfold wayR at hx
    have hy := hp y (by simp)
    have ht : ∀ z ∈ t, z.length ≤ 1000 := fun z hz => hp z (by simp [hz])
    split at hx
    · simp at hx; rw [hx]; simp; omega
    · split at hx
      · rcases List.mem_cons.1 hx with rfl | hx
        · have := (wayR_len t (leftN n) i s).2
          simp; omega
        · exact ih _ _ _ hs ht x hx
      · rcases List.mem_cons.1 hx with rfl | hx
        · have := (wayR_len t (n - leftN n) (i - leftN n) s).2
          simp; omega
        · exact ih _ _ _ hs ht x hx
theorem blen (s : ByteArray) : s.data.toList.length = s.size := by rw [Array.length_toList]; rfl
theorem str_eq (x y : ByteArray) : (x.toList == y.toList) = decide (x.data.toList = y.data.toList) := by
  rw [Lib.toList_data, Lib.toList_data, Bool.eq_iff_iff]; simp
theorem cut_min (s : ByteArray) (N : Int) (hN : 0 ≤ N) : ∃ m : Nat, min ((s.size : Nat) : Int) N = (m : Int) ∧ m ≤ s.size ∧ (m : Int) ≤ N :=
  ⟨min s.size N.toNat, by omega, by omega, by omega⟩
set_option maxRecDepth 100000 in
set_option maxHeartbeats 4000000 in
theorem bind_any (root : ByteArray) (n i : Int) (s : ByteArray) (vp : Value) (p : List Bytes) (t : ByteArray) (vq : Value) (q : List Bytes) (w : World) (hn : I64 n) (hi : I64 i) (hp : StrsAt w.heap.size w vp p) (hq : StrsAt w.heap.size w vq q) (hT : Rounds w) :
    Calls Tryd.prog 7 #[.string root, .int .i64 n, .int .i64 i, .string s, vp, .string t, vq] w fun e w' => e = .returned (.bool true) ∧ Below w.heap.size w w' := by
  have HL := Lib.hid (Live.start hT)
  have HP := Lib.hid hp
  have HQ := Lib.hid hq
  have HT := Lib.hid hT
  obtain ⟨ap, cp, rfl, _, _⟩ := hp.shape
  obtain ⟨aq, cq, rfl, _, _⟩ := hq.shape
  obtain ⟨ms, ems, hms1, hms2⟩ := cut_min s 60 (by omega)
  obtain ⟨mt, emt, hmt1, hmt2⟩ := cut_min t 60 (by omega)
  have HS1 := Lib.hid (cut_size s ms hms2)
  have HS2 := Lib.hid (cut_size t mt hmt2)
  generalize hfs : s.extract 0 ms = s' at *
  generalize hft : t.extract 0 mt = t' at *
  have Hn := Lib.hid hn
  have Hi := Lib.hid hi
  have HmP := Lib.hid (fewL_sm p 70 (by omega))
  have HmQ := Lib.hid (fewL_sm q 70 (by omega))
  have HVP := Lib.hid (@bind_plain root.data.toList s'.data.toList t'.data.toList n i (fewL p 70) (fewL q 70))
  have HEq := Lib.hid (str_eq s' t')
  generalize p.length = pl at *
  generalize q.length = ql at *
  generalize hfp : fewL p 70 = p' at *
  generalize hfq : fewL q 70 = q' at *
  have HFp := Lib.hid hfp
  have HFq := Lib.hid hfq
  clear hfp hfq
  clear hp hq hT
  go_enter Tryd.func7, Tryd.ntmps7
  go_wp2_with fail
  refine (sane_any w HT.out).mono ?_
  rintro e w1 ⟨rfl, hb⟩
  have HL := Lib.hid (HL.out.step hb)
  clear hb
  go_wp2_with fail
  refine (few_live HL.out (HL.out.old HP.out) 70 (by omega)).mono ?_
  rintro e w2 ⟨v1, rfl, hL⟩
  rw [HFp.out] at hL
  obtain ⟨a1, c1, rfl, _, _⟩ := (hL.strs (.head _)).shape
  have HL := Lib.hid hL
  clear hL
  go_wp2_with fail
  refine (few_live HL.out (HL.out.old HQ.out) 70 (by omega)).mono ?_
  rintro e w3 ⟨v2, rfl, hL⟩
  rw [HFq.out] at hL
  obtain ⟨a2, c2, rfl, _, _⟩ := (hL.strs (.head _)).shape
  have HL := Lib.hid hL
  clear hL
  generalize p'.length = pm at *
  generalize q'.length = qm at *
  go_wp2_with fail
  refine (verify_live HL.out root s' n i Hn.out Hi.out (by have := HS1.out; omega) (HL.out.strs (v := .slice a1 pm c1) (l := p') (by simp)) HmP.out.1).mono ?_
  rintro e w4 ⟨rfl, hL⟩
  have HL := Lib.hid hL
  clear hL
  generalize hv1 : verB root.data.toList n i s'.data.toList p' = b1 at *
  have HV1 := Lib.hid hv1
  clear hv1
  go_wp2_with fail
  refine (verify_live HL.out root t' n i Hn.out Hi.out (by have := HS2.out; omega) (HL.out.strs (v := .slice a2 qm c2) (l := q') (by simp)) HmQ.out.1).mono ?_
  rintro e w5 ⟨rfl, hL⟩
  have HL := Lib.hid hL
  clear hL
  generalize hv2 : verB root.data.toList n i t'.data.toList q' = b2 at *
  have HV2 := Lib.hid hv2
  clear hv2
  cases b1
  · go_wp2
    go_ret
    exact ⟨rfl, HL.out.1⟩
  · cases b2
    · go_wp2
      go_ret
      exact ⟨rfl, HL.out.1⟩
    · by_cases hst : s'.data.toList = t'.data.toList
      · have he : (s'.toList == t'.toList) = true := by rw [HEq.out]; exact decide_eq_true hst
        clear hst
        go_wp2
        go_ret
        exact ⟨rfl, HL.out.1⟩
      · have he : (s'.toList == t'.toList) = false := by rw [HEq.out]; exact decide_eq_false hst
        obtain ⟨h0, h1, hc⟩ := HVP.out rfl rfl hst
        obtain ⟨j, rfl⟩ := Int.eq_ofNat_of_zero_le h0
        obtain ⟨m, rfl⟩ := Int.eq_ofNat_of_zero_le (show 0 ≤ n by omega)
        rw [Int.toNat_natCast, Int.toNat_natCast] at hc
        have HC := Lib.hid hc
        have hm := Hn.out.2
        have hj := Hi.out.2
        clear h0 h1 hc hst
        go_wp2_with fail
        refine (way_live HL.out m j s' (by omega) (by omega) (by have := HS1.out; omega) (HL.out.strs (v := .slice a1 pm c1) (l := p') (by simp)) HmP.out).mono ?_
        rintro e w6 ⟨v3, rfl, hL⟩
        obtain ⟨a3, c3, rfl, _, _⟩ := (hL.strs (.head _)).shape
        have HL := Lib.hid hL
        clear hL
        go_wp2_with fail
        refine (way_live HL.out m j t' (by omega) (by omega) (by have := HS2.out; omega) (HL.out.strs (v := .slice a2 qm c2) (l := q') (by simp)) HmQ.out).mono ?_
        rintro e w7 ⟨v4, rfl, hL⟩
        obtain ⟨a4, c4, rfl, _, _⟩ := (hL.strs (.head _)).shape
        have HL := Lib.hid hL
        clear hL
        have HE1 := Lib.hid (wayR_el p'.reverse m j s'.data.toList (by rw [blen]; have := HS1.out; omega) (fun x hx => HmP.out.2 x (List.mem_reverse.1 hx)))
        have HE2 := Lib.hid (wayR_el q'.reverse m j t'.data.toList (by rw [blen]; have := HS2.out; omega) (fun x hx => HmQ.out.2 x (List.mem_reverse.1 hx)))
        generalize bs (wayR p'.reverse m j s'.data.toList).2 = Y1 at *
        generalize bs (wayR q'.reverse m j t'.data.toList).2 = Y2 at *
        generalize (wayR p'.reverse m j s'.data.toList).1 = L1 at *
        generalize (wayR q'.reverse m j t'.data.toList).1 = L2 at *
        go_wp2_with fail
        refine (collide_live HL.out (HL.out.strs (l := L1) (by simp)) (HL.out.strs (l := L2) (by simp)) HE1.out HE2.out).mono ?_
        rintro e w8 ⟨rfl, hL⟩
        rw [HC.out]
        have HL := Lib.hid hL
        clear hL
        go_wp2
        go_ret
        exact ⟨rfl, HL.out.1⟩
end Go.Proofs.YteemhemnkdgehaaDoor
