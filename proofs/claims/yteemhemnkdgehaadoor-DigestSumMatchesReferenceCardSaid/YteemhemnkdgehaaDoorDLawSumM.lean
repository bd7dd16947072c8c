/- DigestSumMatchesReference returns true. -/
import Derived.Test.YteemhemnkdgehaaDoorDSane
import Derived.Test.YteemhemnkdgehaaDoorDLaid
import Derived.Test.YteemhemnkdgehaaDoorDLawBind
import Derived.Test.YteemhemnkdgehaaDoorDRefS
namespace Go.Proofs.YteemhemnkdgehaaDoor
open Go.RowKit Go.Shelf

theorem refSum_live {w0 W : World} {L : List (Value × List Bytes)} (h : Live w0 L W) (S : ByteArray) (hS : S.size ≤ 1000000) :
    Calls Tryd.prog 33 #[.string S] W fun e w' => e = .returned (.string (bs (sha S.data.toList))) ∧ Live w0 L w' :=
  (refSum_any S W (by omega)).mono fun _ _ ⟨h1, h2⟩ => ⟨h1, h.step h2⟩
theorem refLeaf_live {w0 W : World} {L : List (Value × List Bytes)} (h : Live w0 L W) (S : ByteArray) (hS : S.size ≤ 1000000) :
    Calls Tryd.prog 34 #[.string S] W fun e w' => e = .returned (.string (bs (leafB S.data.toList))) ∧ Live w0 L w' :=
  (refLeaf_any S W (by omega)).mono fun _ _ ⟨h1, h2⟩ => ⟨h1, h.step h2⟩
theorem refNode_live {w0 W : World} {L : List (Value × List Bytes)} (h : Live w0 L W) (S T : ByteArray) (hS : S.size ≤ 1000000) (hT : T.size ≤ 1000000) :
    Calls Tryd.prog 35 #[.string S, .string T] W fun e w' => e = .returned (.string (bs (nodeB S.data.toList T.data.toList))) ∧ Live w0 L w' :=
  (refNode_any S T W (by omega) (by omega)).mono fun _ _ ⟨h1, h2⟩ => ⟨h1, h.step h2⟩
theorem refChain_live {w0 W : World} {L : List (Value × List Bytes)} (h : Live w0 L W) (S T : ByteArray) (hS : S.size ≤ 1000000) (hT : T.size ≤ 1000000) :
    Calls Tryd.prog 37 #[.string S, .string T] W fun e w' => e = .returned (.string (bs (chainB S.data.toList T.data.toList))) ∧ Live w0 L w' :=
  (refChain_any S T W (by omega) (by omega)).mono fun _ _ ⟨h1, h2⟩ => ⟨h1, h.step h2⟩
theorem cut_size5 (s : ByteArray) (q : Nat) (h : (q : Int) ≤ 500) : (s.extract 0 q).size ≤ 500 := by rw [ByteArray.size_extract]; omega
set_option maxRecDepth 100000 in
set_option maxHeartbeats 4000000 in
theorem summ_any (s t : ByteArray) (w : World) (hT : Rounds w) :
    Calls Tryd.prog 10 #[.string s, .string t] w fun e w' => e = .returned (.bool true) ∧ Below w.heap.size w w' := by
  have HL := Lib.hid (Live.start hT)
  have HT := Lib.hid hT
  obtain ⟨ms, ems, hms1, hms2⟩ := cut_min s 500 (by omega)
  obtain ⟨mt, emt, hmt1, hmt2⟩ := cut_min t 500 (by omega)
  have HS1 := Lib.hid (cut_size5 s ms hms2)
  have HS2 := Lib.hid (cut_size5 t mt hmt2)
  generalize hfs : s.extract 0 ms = s' at *
  generalize hft : t.extract 0 mt = t' at *
  clear hT
  go_enter Tryd.func10, Tryd.ntmps10
  go_wp2_with fail
  refine (sane_any w HT.out).mono ?_
  rintro e w1 ⟨rfl, hb⟩
  have HL := Lib.hid (HL.out.step hb)
  clear hb
  go_wp2_with fail
  refine (sum_live HL.out s' (by have := HS1.out; omega)).mono ?_
  rintro e w2 ⟨rfl, hL⟩
  have HL := Lib.hid hL
  clear hL
  go_wp2_with fail
  refine (refSum_live HL.out s' (by have := HS1.out; omega)).mono ?_
  rintro e w3 ⟨rfl, hL⟩
  have HL := Lib.hid hL
  clear hL
  generalize bs (sha s'.data.toList) = A1 at *
  go_wp2_with fail
  refine (leaf_live HL.out t' (by have := HS2.out; omega)).mono ?_
  rintro e w4 ⟨rfl, hL⟩
  have HL := Lib.hid hL
  clear hL
  go_wp2_with fail
  refine (refLeaf_live HL.out t' (by have := HS2.out; omega)).mono ?_
  rintro e w5 ⟨rfl, hL⟩
  have HL := Lib.hid hL
  clear hL
  generalize bs (leafB t'.data.toList) = A2 at *
  go_wp2_with fail
  refine (node_live HL.out s' t' (by have := HS1.out; omega) (by have := HS2.out; omega)).mono ?_
  rintro e w6 ⟨rfl, hL⟩
  have HL := Lib.hid hL
  clear hL
  go_wp2_with fail
  refine (refNode_live HL.out s' t' (by have := HS1.out; omega) (by have := HS2.out; omega)).mono ?_
  rintro e w7 ⟨rfl, hL⟩
  have HL := Lib.hid hL
  clear hL
  generalize bs (nodeB s'.data.toList t'.data.toList) = A3 at *
  go_wp2_with fail
  refine (chain_live HL.out t' s' (by have := HS2.out; omega) (by have := HS1.out; omega)).mono ?_
  rintro e w8 ⟨rfl, hL⟩
  have HL := Lib.hid hL
  clear hL
  go_wp2_with fail
  refine (refChain_live HL.out t' s' (by have := HS2.out; omega) (by have := HS1.out; omega)).mono ?_
  rintro e w9 ⟨rfl, hL⟩
  have HL := Lib.hid hL
  clear hL
  generalize bs (chainB t'.data.toList s'.data.toList) = A4 at *
  go_wp2
  go_ret
  exact ⟨rfl, HL.out.1⟩
end Go.Proofs.YteemhemnkdgehaaDoor
