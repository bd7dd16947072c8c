/- DigestExtensionBinding returns true. -/
import Derived.Test.YteemhemnkdgehaaDoorDLawBind
namespace Go.Proofs.YteemhemnkdgehaaDoor
open Go.RowKit Go.Shelf

theorem xbind_plain {a b root : Bytes} {m n : Int} {p q : List Bytes} (h1 : verExtB a m root n p = true) (h2 : verExtB b m root n q = true) (hne : a ≠ b) :
    1 ≤ m ∧ m ≤ n ∧ a.length = 32 ∧ b.length = 32 ∧ collB (sidesR a p.reverse m.toNat n.toNat true).1 (sidesR b q.reverse m.toNat n.toNat true).1 = true := by
  unfold verExtB at h1 h2
  simp only [Bool.and_eq_true, decide_eq_true_eq] at h1 h2
  obtain ⟨⟨⟨⟨⟨h3, h4⟩, h5⟩, h6⟩, h7⟩, h8⟩ := h1
  obtain ⟨⟨⟨⟨⟨_, _⟩, g5⟩, g6⟩, _⟩, g8⟩ := h2
  have hd : ∀ l : List Bytes, digB l = true → ∀ x ∈ l.reverse, x.length = 32 := fun l hl x hx => by
    have := List.all_eq_true.1 hl x (List.mem_reverse.1 hx)
    simpa using this
  by_cases m0 : m = 0
  · rw [if_pos m0] at h8 g8
    simp only [Bool.and_eq_true, beq_iff_eq] at h8 g8
    exact absurd (h8.2.trans g8.2.symm) hne
  · rw [if_neg m0] at h8 g8
    by_cases mn : m = n
    · rw [if_pos mn] at h8 g8
      simp only [Bool.and_eq_true, beq_iff_eq] at h8 g8
      exact absurd (h8.2.trans g8.2.symm) hne
    · rw [if_neg mn, beq_iff_eq] at h8 g8
      exact ⟨by omega, h4, h6, g6, extBinding a b h6 g6 p.reverse q.reverse m.toNat n.toNat true a b root (hd p h5) (hd q g5) (by omega) (by omega) hne h8 g8⟩
theorem sidesR_el (old : Bytes) (p : List Bytes) : ∀ (m n : Nat) (whole : Bool), old.length ≤ 1000 → (∀ x ∈ p, x.length ≤ 1000) → ∀ x ∈ (sidesR old p m n whole).1, x.length ≤ 1000000 := by
  induction p with
  | nil => intro m n whole hs _ x hx; simp [sidesR] at hx
  | cons y t ih =>
    intro m n whole hs hp x hx
    unfold sidesR at hx
    have hy := hp y (by simp)
    have ht : ∀ z ∈ t, z.length ≤ 1000 := fun z hz => hp z (by simp [hz])
    split at hx
    · simp at hx
    · split at hx
      · rcases List.mem_cons.1 hx with rfl | hx
        · have := (sidesR_len old t m (leftN n) whole).2 hs ht
          simp; omega
        · exact ih _ _ _ hs ht x hx
      · rcases List.mem_cons.1 hx with rfl | hx
        · have := (sidesR_len old t (m - leftN n) (n - leftN n) false).2 hs ht
          simp; omega
        · exact ih _ _ _ hs ht x hx
set_option maxRecDepth 100000 in
set_option maxHeartbeats 4000000 in
theorem xbind_any (s : ByteArray) (vp : Value) (p : List Bytes) (t : ByteArray) (vq : Value) (q : List Bytes) (i : Int) (root : ByteArray) (n : Int) (w : World) (hi : I64 i) (hn : I64 n) (hp : StrsAt w.heap.size w vp p) (hq : StrsAt w.heap.size w vq q) (hT : Rounds w) :
    Calls Tryd.prog 8 #[.string s, vp, .string t, vq, .int .i64 i, .string root, .int .i64 n] w fun e w' => e = .returned (.bool true) ∧ Below w.heap.size w w' := by
  have HL := Lib.hid (Live.start hT)
  have HP := Lib.hid hp
  have HQ := Lib.hid hq
  have HT := Lib.hid hT
  obtain ⟨ap, cp, rfl, _, _⟩ := hp.shape
  obtain ⟨aq, cq, rfl, _, _⟩ := hq.shape
  have Hn := Lib.hid hn
  have Hi := Lib.hid hi
  have HmP := Lib.hid (fewL_sm p 70 (by omega))
  have HmQ := Lib.hid (fewL_sm q 70 (by omega))
  have HVP := Lib.hid (@xbind_plain s.data.toList t.data.toList root.data.toList i n (fewL p 70) (fewL q 70))
  have HEq := Lib.hid (str_eq s t)
  generalize p.length = pl at *
  generalize q.length = ql at *
  generalize hfp : fewL p 70 = p' at *
  generalize hfq : fewL q 70 = q' at *
  have HFp := Lib.hid hfp
  have HFq := Lib.hid hfq
  clear hfp hfq
  clear hp hq hT
  go_enter Tryd.func8, Tryd.ntmps8
  go_wp2_with fail
  refine (sane_any w HT.out).mono ?_
  rintro e w1 ⟨rfl, hb⟩
  have HL := Lib.hid (HL.out.step hb)
  clear hb
  go_wp2_with fail
  refine (few_live HL.out (HL.out.old HP.out) 70 (by omega)).mono ?_
  rintro e w2 ⟨v1, rfl, hL⟩
  rw [HFp.out] at hL
  obtain ⟨a1, c1, rfl, _, _⟩ := (hL.strs (.head _)).shape
  have HL := Lib.hid hL
  clear hL
  go_wp2_with fail
  refine (few_live HL.out (HL.out.old HQ.out) 70 (by omega)).mono ?_
  rintro e w3 ⟨v2, rfl, hL⟩
  rw [HFq.out] at hL
  obtain ⟨a2, c2, rfl, _, _⟩ := (hL.strs (.head _)).shape
  have HL := Lib.hid hL
  clear hL
  generalize p'.length = pm at *
  generalize q'.length = qm at *
  go_wp2_with fail
  refine (verExt_live HL.out s root i n Hi.out Hn.out (HL.out.strs (v := .slice a1 pm c1) (l := p') (by simp)) HmP.out.1).mono ?_
  rintro e w4 ⟨rfl, hL⟩
  have HL := Lib.hid hL
  clear hL
  generalize hv1 : verExtB s.data.toList i root.data.toList n p' = b1 at *
  have HV1 := Lib.hid hv1
  clear hv1
  go_wp2_with fail
  refine (verExt_live HL.out t root i n Hi.out Hn.out (HL.out.strs (v := .slice a2 qm c2) (l := q') (by simp)) HmQ.out.1).mono ?_
  rintro e w5 ⟨rfl, hL⟩
  have HL := Lib.hid hL
  clear hL
  generalize hv2 : verExtB t.data.toList i root.data.toList n q' = b2 at *
  have HV2 := Lib.hid hv2
  clear hv2
  cases b1
  · go_wp2
    go_ret
    exact ⟨rfl, HL.out.1⟩
  · cases b2
    · go_wp2
      go_ret
      exact ⟨rfl, HL.out.1⟩
    · by_cases hst : s.data.toList = t.data.toList
      · have he : (s.toList == t.toList) = true := by rw [HEq.out]; exact decide_eq_true hst
        clear hst
        go_wp2
        go_ret
        exact ⟨rfl, HL.out.1⟩
      · have he : (s.toList == t.toList) = false := by rw [HEq.out]; exact decide_eq_false hst
        obtain ⟨h0, h1, hl1, hl2, hc⟩ := HVP.out rfl rfl hst
        obtain ⟨j, rfl⟩ := Int.eq_ofNat_of_zero_le (show 0 ≤ i by omega)
        obtain ⟨m, rfl⟩ := Int.eq_ofNat_of_zero_le (show 0 ≤ n by omega)
        rw [Int.toNat_natCast, Int.toNat_natCast] at hc
        have HC := Lib.hid hc
        have hm := Hn.out.2
        have hj := Hi.out.2
        have HS1 := Lib.hid ((blen s).symm.trans hl1)
        have HS2 := Lib.hid ((blen t).symm.trans hl2)
        have hj1 : 1 ≤ j := by omega
        clear h0 h1 hc hst hl1 hl2
        go_wp2_with fail
        refine (sides_live HL.out s j m true hj1 (by omega) (by omega) (by have := HS1.out; omega) (HL.out.strs (v := .slice a1 pm c1) (l := p') (by simp)) HmP.out).mono ?_
        rintro e w6 ⟨v3, rfl, hL⟩
        obtain ⟨a3, c3, rfl, _, _⟩ := (hL.strs (.head _)).shape
        have HL := Lib.hid hL
        clear hL
        go_wp2_with fail
        refine (sides_live HL.out t j m true hj1 (by omega) (by omega) (by have := HS2.out; omega) (HL.out.strs (v := .slice a2 qm c2) (l := q') (by simp)) HmQ.out).mono ?_
        rintro e w7 ⟨v4, rfl, hL⟩
        obtain ⟨a4, c4, rfl, _, _⟩ := (hL.strs (.head _)).shape
        have HL := Lib.hid hL
        clear hL
        have HE1 := Lib.hid (sidesR_el s.data.toList p'.reverse j m true (by rw [blen]; have := HS1.out; omega) (fun x hx => HmP.out.2 x (List.mem_reverse.1 hx)))
        have HE2 := Lib.hid (sidesR_el t.data.toList q'.reverse j m true (by rw [blen]; have := HS2.out; omega) (fun x hx => HmQ.out.2 x (List.mem_reverse.1 hx)))
        generalize bs (sidesR s.data.toList p'.reverse j m true).2 = Y1 at *
        generalize bs (sidesR t.data.toList q'.reverse j m true).2 = Y2 at *
        generalize (sidesR s.data.toList p'.reverse j m true).1 = L1 at *
        generalize (sidesR t.data.toList q'.reverse j m true).1 = L2 at *
        go_wp2_with fail
        refine (collide_live HL.out (HL.out.strs (l := L1) (by simp)) (HL.out.strs (l := L2) (by simp)) HE1.out HE2.out).mono ?_
        rintro e w8 ⟨rfl, hL⟩
        rw [HC.out]
        have HL := Lib.hid hL
        clear hL
        go_wp2
        go_ret
        exact ⟨rfl, HL.out.1⟩
end Go.Proofs.YteemhemnkdgehaaDoor
