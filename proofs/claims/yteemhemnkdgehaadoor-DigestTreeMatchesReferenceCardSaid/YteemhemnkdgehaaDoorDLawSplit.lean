/- DigestSplit returns true. -/
import Derived.Test.YteemhemnkdgehaaDoorDLawXAcc
namespace Go.Proofs.YteemhemnkdgehaaDoor
open Go.RowKit Go.Shelf

theorem rootL_eqs (l : List Bytes) (s : Bytes) (h : l.length = 0) : rootL (l ++ [s]) = leafB s ∧ rootL l = sha [] := by
  obtain rfl : l = [] := List.eq_nil_of_length_eq_zero h
  exact ⟨rootL_one s, rfl⟩
theorem Sm.snoc {l : List Bytes} (h : Sm l) (hl : l.length ≤ 1000) (s : Bytes) (hs : s.length ≤ 1000) : Sm (l ++ [s]) := ⟨by rw [List.length_append, List.length_singleton]; omega, fun x hx => by
  rcases List.mem_append.1 hx with hx | hx
  · exact h.2 x hx
  · rw [List.mem_singleton.1 hx]; exact hs⟩
theorem bs_self (x y : Bytes) (h : x = y) : ((bs x).toList == (bs y).toList) = true := by rw [h]; exact beq_self_eq_true _
set_option maxRecDepth 100000 in
set_option maxHeartbeats 4000000 in
theorem split_any (vl : Value) (l0 : List Bytes) (s : ByteArray) (w : World) (hp : StrsAt w.heap.size w vl l0) (hT : Rounds w) :
    Calls Tryd.prog 9 #[vl, .string s] w fun e w' => e = .returned (.bool true) ∧ Below w.heap.size w w' := by
  have HL := Lib.hid (Live.start hT)
  have HP := Lib.hid hp
  have HT := Lib.hid hT
  obtain ⟨ap, cp, rfl, _, _⟩ := hp.shape
  obtain ⟨ms, ems, hms1, hms2⟩ := cut_min s 60 (by omega)
  have HS1 := Lib.hid (cut_size s ms hms2)
  generalize hfs : s.extract 0 ms = s' at *
  have HmP := Lib.hid (fewL_sm l0 40 (by omega))
  have hlen : (fewL l0 40).length ≤ 40 := by rw [fewL_len]; omega
  generalize l0.length = pl at *
  generalize hfp : fewL l0 40 = l at *
  have HFp := Lib.hid hfp
  clear hfp hp hT
  go_enter Tryd.func9, Tryd.ntmps9
  go_wp2_with fail
  refine (sane_any w HT.out).mono ?_
  rintro e w1 ⟨rfl, hb⟩
  have HL := Lib.hid (HL.out.step hb)
  clear hb
  go_wp2_with fail
  refine (few_live HL.out (HL.out.old HP.out) 40 (by omega)).mono ?_
  rintro e w2 ⟨v1, rfl, hL⟩
  rw [HFp.out] at hL
  obtain ⟨a1, c1, rfl, hc1, hc2⟩ := (hL.strs (.head _)).shape
  unfold maxLen at hc2
  have HL := Lib.hid hL
  clear hL
  have HmM := Lib.hid (HmP.out.snoc (by omega) s'.data.toList (by rw [blen]; have := HS1.out; omega))
  have hml : (l ++ [s'.data.toList]).length = l.length + 1 := by simp
  have HX1 := Lib.hid (@extE_in (l ++ [s'.data.toList]) l.length (by omega))
  have HX3 := Lib.hid (@extE_short (l ++ [s'.data.toList]) l.length (by omega) 6 (by omega))
  have hx4 := @extE_acc (l ++ [s'.data.toList]) l.length (by omega)
  rw [List.take_left, hml] at hx4
  have HX4 := Lib.hid hx4
  have HR := Lib.hid (rootL_eqs l s'.data.toList)
  have hsp := fun h => @rootL_split (l ++ [s'.data.toList]) h
  rw [hml] at hsp
  have HSp := Lib.hid hsp
  generalize hmo : l ++ [s'.data.toList] = mo at *
  have HMo := Lib.hid hmo
  generalize hn : l.length = n at *
  have Hn := Lib.hid hn
  have HMl := Lib.hid hml
  clear hn hml hmo hx4 hsp
  obtain ⟨N, hN⟩ : ∃ N, N = n + 1 := ⟨_, rfl⟩
  rw [← hN] at HX4 HSp HMl
  have HN := Lib.hid hN
  clear hN
  go_wp2_with (first
    | (at_builtin; refine append_SS rfl _ _ rfl w2.heap.size 0 _ (.slice a1 n c1) [] l rfl rfl (ownS_lit0 w2 w2.heap.size (Nat.le_refl _)) (World.ownsRow.alloc (HL.out.own (.head _)) _) (by rw [Hn.out]; simp; omega) (by simp) w2 ((Below.refl _ _).alloc (Nat.le_refl _) _) ?_; intro v5 w5 hO5 hg5 hb5; have HO5 := Lib.hid hO5; clear hO5 hg5)
    | (at_builtin; refine append_SS rfl _ _ rfl w2.heap.size w2.heap.size _ _ l [s'.data.toList] rfl rfl (World.ownsRow.alloc HO5.out _) (ownS_lit w5 w2.heap.size s'.data.toList hb5.size) (by rw [Hn.out]; simp; omega) (by have := hb5.size; simp; omega) w2 (hb5.alloc hb5.size _) ?_; intro v6 w6 hO6 hg6 hb6; rw [HMo.out] at hO6; have HO6 := Lib.hid hO6; clear hO6 hg6))
  have HL := Lib.hid ((HL.out.step hb6).add HO6.out)
  obtain ⟨a6, c6, h6, h7, h8⟩ := (HL.out.strs (.head _)).shape
  rw [HMl.out] at h6 h7
  unfold maxLen at h8
  subst h6
  clear hb5 hb6 HO5
  refine (ext_live HL.out (HL.out.strs (.head _)) HmM.out n).mono ?_
  rintro e w7 ⟨v7, rfl, hL⟩
  rw [HX1.out]
  obtain ⟨a7, c7, rfl, _, _⟩ := (hL.strs (.head _)).shape
  have HL := Lib.hid hL
  clear hL
  generalize (extE mo n).1 = x at *
  generalize hxx : x.length = xl at *
  have HXl := Lib.hid hxx
  clear hxx
  go_wp2_with fail
  refine (root_live HL.out (HL.out.strs (v := .slice a1 n c1) (l := l) (by simp)) HmP.out).mono ?_
  rintro e w8 ⟨rfl, hL⟩
  have HL := Lib.hid hL
  clear hL
  go_wp2_with fail
  refine (root_live HL.out (HL.out.strs (v := .slice a6 N c6) (l := mo) (by simp)) HmM.out).mono ?_
  rintro e w9 ⟨rfl, hL⟩
  have HL := Lib.hid hL
  clear hL
  have hNb : N ≤ 41 := by have := HN.out; omega
  go_wp2_with fail
  refine (verExt_live HL.out (bs (rootL l)) (bs (rootL mo)) n N (by unfold I64; omega) (by unfold I64; omega) (HL.out.strs (v := .slice a7 xl c7) (l := x) (by simp)) (by rw [HXl.out]; have := HX3.out; omega)).mono ?_
  rintro e w10 ⟨rfl, hL⟩
  rw [bs_list, bs_list, HX4.out]
  have HL := Lib.hid hL
  clear hL
  by_cases h0 : n = 0
  · have HR1 := Lib.hid (HR.out h0).1
    have HR2 := Lib.hid (HR.out h0).2
    subst h0
    go_wp2_with fail
    refine (root_live HL.out (HL.out.strs (v := .slice a6 N c6) (l := mo) (by simp)) HmM.out).mono ?_
    rintro e w11 ⟨rfl, hL⟩
    rw [HR1.out]
    have HL := Lib.hid hL
    clear hL
    go_wp2_with fail
    refine (leaf_live HL.out s' (by have := HS1.out; omega)).mono ?_
    rintro e w12 ⟨rfl, hL⟩
    have HL := Lib.hid hL
    clear hL
    go_wp2_with fail
    refine (root_live HL.out (HL.out.strs (v := .slice a1 0 c1) (l := l) (by simp)) HmP.out).mono ?_
    rintro e w13 ⟨rfl, hL⟩
    rw [HR2.out]
    have HL := Lib.hid hL
    clear hL
    go_wp2_with fail
    refine (sum_live HL.out (⟨#[]⟩ : ByteArray) (by decide)).mono ?_
    rintro e w14 ⟨rfl, hL⟩
    rw [show (⟨#[]⟩ : ByteArray).data.toList = [] from rfl]
    have HL := Lib.hid hL
    clear hL
    go_wp2
    go_ret
    exact ⟨rfl, HL.out.1⟩
  · have hN2 : 2 ≤ N := by have := HN.out; omega
    have hlb := leftN_bd hN2
    have hsp2 := HSp.out hN2
    have HLt := Lib.hid (fun W => lawLeft_any N W hN2 (by omega))
    generalize leftN N = K at *
    have HSp2 := Lib.hid hsp2
    have e1 : (K : Int) ≤ (N : Int) := by omega
    have e3 : (K : Int) ≤ (c6 : Int) := by omega
    have e4 : (N : Int) ≤ (c6 : Int) := by omega
    have hn0 : ¬ ((n : Int) = 0) := by omega
    obtain ⟨b6, off, ha6⟩ := (HL.out.strs (v := .slice a6 N c6) (l := mo) (by simp)).addr (by rw [HMl.out]; omega)
    subst ha6
    clear hsp2 HR h0
    go_wp2_with (go_at_call 31; refine (HLt.out _).mono ?_; rintro e w' ⟨rfl, rfl⟩)
    have HTk := Lib.hid (fun W (h : Live w [(.slice a7 xl c7, x), (.slice (some ⟨b6, off, none⟩) N c6, mo), (.slice a1 n c1, l)] W) => (h.strs (v := .slice (some ⟨b6, off, none⟩) N c6) (l := mo) (by simp)).take K (by rw [HMl.out]; omega))
    have HDr := Lib.hid (fun W (h : Live w [(.slice a7 xl c7, x), (.slice (some ⟨b6, off, none⟩) N c6, mo), (.slice a1 n c1, l)] W) => (h.strs (v := .slice (some ⟨b6, off, none⟩) N c6) (l := mo) (by simp)).drop K (by rw [HMl.out]; omega))
    have HAl := Lib.hid (fun W (h : Live w [(.slice a7 xl c7, x), (.slice (some ⟨b6, off, none⟩) N c6, mo), (.slice a1 n c1, l)] W) => h.strs (v := .slice (some ⟨b6, off, none⟩) N c6) (l := mo) (by simp))
    have HF := Lib.hid (bs_self _ _ HSp2.out)
    have hL10 := HL.out
    go_region_held3 (fun W => Live w [(.slice a7 xl c7, x), (.slice (some ⟨b6, off, none⟩) N c6, mo), (.slice a1 n c1, l)] W) (first | exact hLn | exact hL10.drew)
      (first
        | (go_at_call 19; with_reducible refine (root_live (by assumption) (HAl.out _ (by assumption)) HmM.out).mono ?_; rintro e wc ⟨rfl, hLn⟩)
        | (go_at_call 19; with_reducible refine (root_live (by assumption) (HTk.out _ (by assumption)) (HmM.out.take K)).mono ?_; rintro e wc ⟨rfl, hLn⟩)
        | (go_at_call 19; with_reducible refine (root_live (by assumption) (HDr.out _ (by assumption)) (HmM.out.drop K)).mono ?_; rintro e wc ⟨rfl, hLn⟩)
        | (go_at_call 32; with_reducible refine (node_live (by assumption) _ _ (by rw [bs_size, rootL_length]; omega) (by rw [bs_size, rootL_length]; omega)).mono ?_; rintro e wc ⟨rfl, hLn⟩))
    all_goals go_wp2
    all_goals go_ret
    all_goals exact ⟨ret_bool HF.out, hLn.1⟩
end Go.Proofs.YteemhemnkdgehaaDoor
