/- The reference's Prove, Sign, Genuine, Check, CheckGrown. -/
import Derived.Test.YthfenbdlolbikaaGreatDoorGRefHead
import Derived.Test.YthfenbdlolbikaaGreatDoorDRefV
import Derived.Test.YthfenbdlolbikaaGreatDoorDRefX
set_option linter.unusedVariables false
set_option linter.unusedSimpArgs false
namespace Go.Proofs.YthfenbdlolbikaaGreatDoor
open Go.RowKit Go.Shelf

set_option maxRecDepth 100000 in
set_option maxHeartbeats 1000000 in
theorem refProve_any (o : Int) (rv : Value) (l : List LRec) (i : Int) (w : World) (hR : RecsAt w.heap.size w rv l) (hl : l.length ≤ 1000000) (hi : I64 i) :
    Calls Tryz.prog 19 #[bookV o rv, .int .i64 i] w fun e w' => ∃ v, e = .returned (.tuple #[v, .int .i64 (proveE ⟨o, l⟩ i).2]) ∧ OwnS w.heap.size w' v (proveE ⟨o, l⟩ i).1 ∧ Below w.heap.size w w' := by
  obtain ⟨ra, rc, rfl, hrc, hrm⟩ := hR.shape
  have HR := Lib.hid hR
  have hb0 : Below w.heap.size w (w.alloc (.cells #[.int .i64 o, .slice ra l.length rc] 25)) := (Below.refl _ _).alloc (Nat.le_refl _) _
  have HV := Lib.hid (refValid_any o _ l _ (hR.later hb0 (Nat.le_refl _)) hl)
  have HB0 := Lib.hid hb0
  have HX0 := Lib.hid (logBox_new w o (.slice ra l.length rc))
  clear hR hb0
  cases hv : bookB ⟨o, l⟩
  · have HE : Hid (proveE ⟨o, l⟩ i = ([], 380)) := by show _ = _; rw [proveE, hv]; rfl
    rw [hv] at HV
    clear hv
    go_enter Tryz.func19, Tryz.ntmps19
    go_wp2_with fail
    refine HV.out.mono ?_
    rintro e w1 ⟨rfl, hb1⟩
    have HB1 := Lib.hid (HB0.out.trans (hb1.mono (by simp)))
    clear hb1
    go_wp2
    go_ret2
    exact ⟨.slice none 0 0, by rw [HE.out]; rfl, by rw [HE.out]; exact OwnS.nil _ _, HB1.out⟩
  · have hE : proveE ⟨o, l⟩ i = if decide ((proofE (codesL ⟨o, l⟩) i).2 = 0) then ((proofE (codesL ⟨o, l⟩) i).1, 0) else ([], 380) := by rw [proveE, hv, Bool.true_and]
    have HSm := Lib.hid (codesL_sm hv)
    have HTx : Hid (∀ x ∈ l, x.text.length ≤ 1000000) := fun x hx => by have := book_recs hv x hx; unfold recB at this; simp only [Bool.and_eq_true, decide_eq_true_eq] at this; omega
    have HCo : Hid (codesR l = codesL ⟨o, l⟩) := codesR_ok (book_recs hv)
    rw [hv] at HV
    clear hv
    generalize codesL ⟨o, l⟩ = C at *
    have HE := Lib.hid hE
    clear hE
    go_enter Tryz.func19, Tryz.ntmps19
    go_wp2_with fail
    refine HV.out.mono ?_
    rintro e w1 ⟨rfl, hb1⟩
    have hX1 := HX0.out.below hb1 (by simp)
    have q0 := hX1.c0
    have q1 := hX1.c1
    have HB1 := Lib.hid (HB0.out.trans (hb1.mono (by simp)))
    clear hb1 hX1
    go_wp2_with fail
    refine (refCodes_any o _ l _ (HR.out.later HB1.out (Nat.le_refl _)) hl HTx.out).mono ?_
    rintro e w2 ⟨v, rfl, hO, hb2⟩
    rw [HCo.out] at hO
    obtain ⟨a, c, hv, _, _⟩ := hO.shape2
    subst hv
    have HO := Lib.hid hO
    have HB2 := Lib.hid (HB1.out.trans (hb2.mono HB1.out.size))
    clear hO hb2 q0 q1
    go_wp2_with fail
    refine (refProof_any C.length C i _ w2 (Nat.le_refl _) HSm.out HO.out.strs hi).mono ?_
    rintro e w3 ⟨vp, rfl, hO3, hb3⟩
    have HB3 := Lib.hid (HB2.out.trans (hb3.mono HB2.out.size))
    have HO3 := Lib.hid (hO3.mono (base' := w.heap.size) HB2.out.size)
    obtain ⟨a2, c2, hv2, _, _⟩ := hO3.shape2
    subst hv2
    have herr := proveE_err C i
    clear hb3 hO3
    rcases herr with herr | herr
    · rw [herr, decide_eq_true rfl, if_pos rfl] at HE
      rw [herr]
      generalize (proofE C i).1 = L at *
      clear herr
      go_wp2
      go_ret2
      exact ⟨_, by rw [HE.out]; rfl, by rw [HE.out]; exact HO3.out, HB3.out⟩
    · rw [herr, decide_eq_false (by decide), if_neg (by decide)] at HE
      rw [herr]
      generalize (proofE C i).1 = L at *
      clear herr
      go_wp2
      go_ret2
      exact ⟨.slice none 0 0, by rw [HE.out]; rfl, by rw [HE.out]; exact OwnS.nil _ _, HB3.out⟩
set_option maxRecDepth 100000 in
set_option maxHeartbeats 1000000 in
theorem refTag_any (key content : Bytes) (w : World) (hk : key.length ≤ 1000000) (hc : content.length ≤ 2000000) :
    Calls Tryz.prog 47 #[.string (bs key), .string (bs content)] w fun e w' => e = .returned (.string (bs (nodeB key (leafB content)))) ∧ Below w.heap.size w w' := by
  have hks : (bs key).size ≤ 1000000 := by rw [bs_size]; exact hk
  have hcs : (bs content).size ≤ 2000000 := by rw [bs_size]; exact hc
  have hls : (bs (leafB content)).size = 32 := by rw [bs_size]; exact leafB_length _
  go_enter Tryz.func47, Tryz.ntmps47
  go_wp2_with fail
  refine (refLeaf_any (bs content) w (by omega)).mono ?_
  rintro e w1 ⟨rfl, hb1⟩
  rw [bs_list]
  have HB1 := Lib.hid hb1
  clear hb1
  go_wp2_with fail
  refine (refNode_any (bs key) (bs (leafB content)) w1 (by omega) (by omega)).mono ?_
  rintro e w2 ⟨rfl, hb2⟩
  rw [bs_list, bs_list]
  have HB2 := Lib.hid (HB1.out.trans (hb2.mono HB1.out.size))
  clear hb2
  go_wp2
  go_ret
  exact ⟨rfl, HB2.out⟩
set_option maxRecDepth 100000 in
set_option maxHeartbeats 1000000 in
theorem refSign_any (key : Bytes) (o : Int) (rv : Value) (l : List LRec) (w : World) (hR : RecsAt w.heap.size w rv l) (hl : l.length ≤ 1000000) (hk : key.length ≤ 1000000) :
    Calls Tryz.prog 14 #[.string (bs key), bookV o rv] w fun e w' => e = .returned (.tuple #[.string (bs (signE key ⟨o, l⟩).1), .int .i64 (signE key ⟨o, l⟩).2]) ∧ Below w.heap.size w w' := by
  obtain ⟨ra, rc, rfl, hrc, hrm⟩ := hR.shape
  have HR := Lib.hid hR
  clear hR
  go_enter Tryz.func14, Tryz.ntmps14
  go_wp2_with fail
  have hb0 : Below w.heap.size w (w.alloc (.cells #[.int .i64 o, .slice ra l.length rc] 25)) := (Below.refl _ _).alloc (Nat.le_refl _) _
  refine (refHead_any o _ l _ (HR.out.later hb0 (Nat.le_refl _)) hl).mono ?_
  rintro e W1 ⟨rfl, hb1⟩
  have hB1 := hb0.trans (hb1.mono (by simp))
  have hL1 := (logBox_new w o (.slice ra l.length rc)).below hb1 (by simp)
  have HB1 := Lib.hid hB1
  clear hb0 hb1 hB1
  cases hv : bookB ⟨o, l⟩
  · have HE : Hid (signE key ⟨o, l⟩ = ([], 380)) := by show _ = _; rw [signE, hv]; rfl
    rw [show headE ⟨o, l⟩ = ([], 380) from by rw [headE, hv]; rfl]
    clear hv hL1
    go_wp2
    go_ret2
    exact ⟨by rw [HE.out]; rfl, HB1.out⟩
  · have hbn : 0 ≤ o ∧ o ≤ 99 ∧ l.length ≤ 60 := by
      have h := hv
      unfold bookB at h
      simp only [Bool.and_eq_true, decide_eq_true_eq, inZ_iff] at h
      exact ⟨h.1.2.1, h.1.2.2, h.2⟩
    rw [show headE ⟨o, l⟩ = (rootL (codesL ⟨o, l⟩), 0) from by rw [headE, hv]; rfl]
    have hks := bs_size key
    by_cases h32 : key.length = 32
    · have HE : Hid (signE key ⟨o, l⟩ = (tagB key o l.length (rootL (codesL ⟨o, l⟩)), 0)) := by show _ = _; rw [signE, hv, decide_eq_true h32]; rfl
      have d32 : (((bs key).size : Int) != 32) = false := by rw [hks, h32]; rfl
      have q0 := hL1.c0
      have q1 := hL1.c1
      have hrl := rootL_le (codesL ⟨o, l⟩)
      clear hv hL1 hks h32
      simp only
      generalize rootL (codesL ⟨o, l⟩) = R at *
      have hcl : (contentB o l.length R).length ≤ 2000000 := by
        have e1 := enc_length (zz o)
        have e2 := enc_length (zz (l.length : Int))
        simp only [contentB, List.length_append]
        omega
      have HG : Hid (tagB key o l.length R = nodeB key (leafB (contentB o l.length R))) := rfl
      go_wp2_with fail
      refine (content_any o l.length R W1 (by unfold EncZ; omega) (by unfold EncZ; omega) (by omega)).mono ?_
      rintro e W2 ⟨rfl, hb2⟩
      have HB2 := Lib.hid (HB1.out.trans (hb2.mono HB1.out.size))
      clear hb2 q0 q1
      generalize contentB o l.length R = CT at *
      go_wp2_with fail
      refine (refTag_any key CT W2 hk hcl).mono ?_
      rintro e W3 ⟨rfl, hb3⟩
      rw [← HG.out]
      have HB3 := Lib.hid (HB2.out.trans (hb3.mono HB2.out.size))
      clear hb3
      go_wp2
      go_ret2
      exact ⟨by rw [HE.out]; rfl, HB3.out⟩
    · have HE : Hid (signE key ⟨o, l⟩ = ([], 380)) := by show _ = _; rw [signE, decide_eq_false h32, Bool.and_false]; rfl
      have d32 : (((bs key).size : Int) != 32) = true := by
        rw [hks]
        simp only [bne_iff_ne]
        omega
      clear hv hL1 hks h32
      simp only
      generalize rootL (codesL ⟨o, l⟩) = R at *
      go_wp2
      go_ret2
      exact ⟨by rw [HE.out]; rfl, HB1.out⟩
theorem size32_nf {x : Bytes} (h : x.length = 32) : (((bs x).size : Int) != 32) = false := by rw [bs_size, h]; rfl
theorem size32_nt {x : Bytes} (h : ¬ x.length = 32) : (((bs x).size : Int) != 32) = true := by
  rw [bs_size]
  simp only [bne_iff_ne]
  omega
set_option maxRecDepth 100000 in
set_option maxHeartbeats 1000000 in
theorem refGenuine_any (key : Bytes) (office n : Int) (root t : Bytes) (w : World) :
    Calls Tryz.prog 16 #[.string (bs key), .int .i64 office, .int .i64 n, .string (bs root), .string (bs t)] w fun e w' => e = .returned (.bool (genB key office n root t)) ∧ Below w.heap.size w w' := by
  have HG : Hid (genB key office n root t = (inZ office 0 99 && inZ n 0 60 && decide (key.length = 32) && decide (root.length = 32) && (t == tagB key office n root))) := rfl
  by_cases h3 : key.length = 32
  rotate_left
  · have d3 := size32_nt h3
    have HF : Hid (genB key office n root t = false) := by show _ = _; rw [HG.out, decide_eq_false h3]; simp
    clear HG h3
    go_enter Tryz.func16, Tryz.ntmps16
    go_wp2
    go_ret
    exact ⟨by rw [HF.out]; rfl, Below.refl _ _⟩
  have d3 := size32_nf h3
  by_cases h1 : office < 0
  · have d1 : decide (office < 0) = true := decide_eq_true h1
    have HF : Hid (genB key office n root t = false) := by show _ = _; rw [HG.out]; unfold inZ; rw [show decide ((0 : Int) ≤ office) = false from decide_eq_false (by omega)]; simp
    clear HG h3
    go_enter Tryz.func16, Tryz.ntmps16
    go_wp2
    go_ret
    exact ⟨by rw [HF.out]; rfl, Below.refl _ _⟩
  have d1 : decide (office < 0) = false := decide_eq_false h1
  by_cases h2 : 99 < office
  · have d2 : decide (99 < office) = true := decide_eq_true h2
    have HF : Hid (genB key office n root t = false) := by show _ = _; rw [HG.out]; unfold inZ; rw [show decide (office ≤ 99) = false from decide_eq_false (by omega)]; simp
    clear HG h3
    go_enter Tryz.func16, Tryz.ntmps16
    go_wp2
    go_ret
    exact ⟨by rw [HF.out]; rfl, Below.refl _ _⟩
  have d2 : decide (99 < office) = false := decide_eq_false h2
  by_cases h5 : n < 0
  · have d5 : decide (n < 0) = true := decide_eq_true h5
    have HF : Hid (genB key office n root t = false) := by show _ = _; rw [HG.out]; unfold inZ; rw [show decide ((0 : Int) ≤ n) = false from decide_eq_false (by omega)]; simp
    clear HG h3
    go_enter Tryz.func16, Tryz.ntmps16
    go_wp2
    go_ret
    exact ⟨by rw [HF.out]; rfl, Below.refl _ _⟩
  have d5 : decide (n < 0) = false := decide_eq_false h5
  by_cases h6 : 60 < n
  · have d6 : decide (60 < n) = true := decide_eq_true h6
    have HF : Hid (genB key office n root t = false) := by show _ = _; rw [HG.out]; unfold inZ; rw [show decide (n ≤ 60) = false from decide_eq_false (by omega)]; simp
    clear HG h3
    go_enter Tryz.func16, Tryz.ntmps16
    go_wp2
    go_ret
    exact ⟨by rw [HF.out]; rfl, Below.refl _ _⟩
  have d6 : decide (60 < n) = false := decide_eq_false h6
  by_cases h4 : root.length = 32
  rotate_left
  · have d4 := size32_nt h4
    have HF : Hid (genB key office n root t = false) := by show _ = _; rw [HG.out, decide_eq_false h4]; simp
    clear HG h3 h4
    go_enter Tryz.func16, Tryz.ntmps16
    go_wp2
    go_ret
    exact ⟨by rw [HF.out]; rfl, Below.refl _ _⟩
  have d4 := size32_nf h4
  have HF : Hid (genB key office n root t = (t == tagB key office n root)) := by show _ = _; rw [HG.out, show inZ office 0 99 = true from inZ_iff.2 (by omega), show inZ n 0 60 = true from inZ_iff.2 (by omega), decide_eq_true h3, decide_eq_true h4]; simp only [Bool.true_and]
  have hbe := bs_beq t (tagB key office n root)
  have hcl : (contentB office n root).length ≤ 2000000 := by
    have e1 := enc_length (zz office)
    have e2 := enc_length (zz n)
    simp only [contentB, List.length_append]
    omega
  have HCt := Lib.hid (fun W => content_any office n root W (by unfold EncZ; omega) (by unfold EncZ; omega) (by omega))
  have HTg := Lib.hid (fun W => refTag_any key (contentB office n root) W (by omega) hcl)
  have hG : tagB key office n root = nodeB key (leafB (contentB office n root)) := rfl
  rw [← hG] at HTg
  generalize tagB key office n root = G at *
  generalize contentB office n root = CT at *
  clear HG h3 h4 hG hcl
  go_enter Tryz.func16, Tryz.ntmps16
  go_wp2_with fail
  refine (HCt.out _).mono ?_
  rintro e w1 ⟨rfl, hb1⟩
  have HB1 := Lib.hid hb1
  clear hb1
  go_wp2_with fail
  refine (HTg.out _).mono ?_
  rintro e w2 ⟨rfl, hb2⟩
  have HB2 := Lib.hid (HB1.out.trans (hb2.mono HB1.out.size))
  clear hb2
  go_wp2
  go_ret
  exact ⟨by rw [HF.out, ← hbe]; rfl, HB2.out⟩
set_option maxRecDepth 100000 in
set_option maxHeartbeats 1000000 in
theorem refCheck_any (root : Bytes) (n i : Int) (x : LRec) (v : Value) (proof : List Bytes) (w : World) (hn : I64 n) (hi : I64 i) (hx : x.text.length ≤ 1000000) (hL : StrsAt w.heap.size w v proof) (hlen : proof.length ≤ 100000) :
    Calls Tryz.prog 26 #[.string (bs root), .int .i64 n, .int .i64 i, recV x, v] w fun e w' => e = .returned (.bool (checkB root n i x proof)) ∧ Below w.heap.size w w' := by
  obtain ⟨av, cv, rfl, hcv1, hcv2⟩ := hL.shape
  have HL := Lib.hid hL
  have HC : Hid (checkB root n i x proof = (recB x && verB root n i (encR x) proof)) := rfl
  clear hL
  go_enter Tryz.func26, Tryz.ntmps26
  go_wp2_with fail
  have hb0 : Below w.heap.size w (w.alloc (.cells #[.int .i64 x.sec, .int .i64 x.kind, .int .i64 x.a, .int .i64 x.b, .string (bs x.text)] 48)) := (Below.refl _ _).alloc (Nat.le_refl _) _
  refine (refEncode_any x _ hx).mono ?_
  rintro e W1 ⟨rfl, hb1⟩
  have HB1 := Lib.hid (hb0.trans (hb1.mono (by simp)))
  clear hb0 hb1
  cases hr : recB x
  · rw [show encE x = ([], 380) from by rw [encE, hr]; rfl]
    rw [hr, Bool.false_and] at HC
    clear hr
    go_wp2
    go_ret
    exact ⟨by rw [HC.out]; rfl, HB1.out⟩
  · rw [show encE x = (encR x, 0) from by rw [encE, hr]; rfl]
    have hel := encR_length hr
    rw [hr, Bool.true_and] at HC
    have HV := Lib.hid (refVerify_any (bs root) (bs (encR x)) n i _ proof W1 hn hi (by rw [bs_size]; omega) (HL.out.later HB1.out (Nat.le_refl _)) hlen)
    rw [bs_list, bs_list] at HV
    clear hr hn hi
    simp only
    generalize verB root n i (encR x) proof = V at *
    generalize encR x = E at *
    go_wp2_with (go_at_call 59; refine HV.out.mono ?_; rintro e W2 ⟨rfl, hb2⟩)
    go_ret
    exact ⟨by rw [HC.out]; rfl, HB1.out.trans (hb2.mono HB1.out.size)⟩
set_option maxRecDepth 100000 in
set_option maxHeartbeats 1000000 in
theorem refCheckGrown_any (old : Bytes) (m : Int) (root : Bytes) (n : Int) (v : Value) (proof : List Bytes) (w : World) (hm : I64 m) (hn : I64 n) (hL : StrsAt w.heap.size w v proof) (hlen : proof.length ≤ 100000) :
    Calls Tryz.prog 24 #[.string (bs old), .int .i64 m, .string (bs root), .int .i64 n, v] w fun e w' => e = .returned (.bool (verExtB old m root n proof)) ∧ Below w.heap.size w w' := by
  obtain ⟨av, cv, rfl, hcv1, hcv2⟩ := hL.shape
  have HV := Lib.hid (refVerExt_any (bs old) (bs root) m n _ proof w hm hn hL hlen)
  rw [bs_list, bs_list] at HV
  clear hL hm hn
  generalize verExtB old m root n proof = V at *
  go_enter Tryz.func24, Tryz.ntmps24
  go_wp2_with (go_at_call 56; refine HV.out.mono ?_; rintro e W2 ⟨rfl, hb2⟩)
  go_ret
  exact ⟨rfl, hb2⟩
end Go.Proofs.YthfenbdlolbikaaGreatDoor
