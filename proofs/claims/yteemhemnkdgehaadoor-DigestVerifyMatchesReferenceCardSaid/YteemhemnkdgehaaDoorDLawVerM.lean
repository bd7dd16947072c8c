/- DigestVerifyMatchesReference returns true. -/
import Derived.Test.YteemhemnkdgehaaDoorDLawXAcc
import Derived.Test.YteemhemnkdgehaaDoorDRefX
namespace Go.Proofs.YteemhemnkdgehaaDoor
open Go.RowKit Go.Shelf

theorem refVerify_live {w0 W : World} {L : List (Value × List Bytes)} {v : Value} {p : List Bytes} (h : Live w0 L W) (R S : ByteArray) (n i : Int) (hn : I64 n) (hi : I64 i) (hS : S.size ≤ 1000) (hs : StrsAt W.heap.size W v p) (hp : p.length ≤ 100000) :
    Calls Tryd.prog 22 #[.string R, .int .i64 n, .int .i64 i, .string S, v] W fun e w' => e = .returned (.bool (verB R.data.toList n i S.data.toList p)) ∧ Live w0 L w' :=
  (refVerify_any R S n i v p W hn hi hS hs hp).mono fun _ _ ⟨h1, h2⟩ => ⟨h1, h.step h2⟩
theorem refVerExt_live {w0 W : World} {L : List (Value × List Bytes)} {v : Value} {p : List Bytes} (h : Live w0 L W) (O R : ByteArray) (m n : Int) (hm : I64 m) (hn : I64 n) (hs : StrsAt W.heap.size W v p) (hp : p.length ≤ 100000) :
    Calls Tryd.prog 24 #[.string O, .int .i64 m, .string R, .int .i64 n, v] W fun e w' => e = .returned (.bool (verExtB O.data.toList m R.data.toList n p)) ∧ Live w0 L w' :=
  (refVerExt_any O R m n v p W hm hn hs hp).mono fun _ _ ⟨h1, h2⟩ => ⟨h1, h.step h2⟩
set_option maxRecDepth 100000 in
set_option maxHeartbeats 4000000 in
theorem verm_any (old root : ByteArray) (n i : Int) (s : ByteArray) (vp : Value) (p : List Bytes) (w : World) (hn : I64 n) (hi : I64 i) (hp : StrsAt w.heap.size w vp p) (hT : Rounds w) :
    Calls Tryd.prog 4 #[.string old, .string root, .int .i64 n, .int .i64 i, .string s, vp] w fun e w' => e = .returned (.bool true) ∧ Below w.heap.size w w' := by
  have HL := Lib.hid (Live.start hT)
  have HP := Lib.hid hp
  have HT := Lib.hid hT
  obtain ⟨ap, cp, rfl, _, _⟩ := hp.shape
  have Hn := Lib.hid hn
  have Hi := Lib.hid hi
  obtain ⟨ms, ems, hms1, hms2⟩ := cut_min s 60 (by omega)
  have HS1 := Lib.hid (cut_size s ms hms2)
  generalize hfs : s.extract 0 ms = s' at *
  have HmP := Lib.hid (fewL_sm p 70 (by omega))
  generalize p.length = pl at *
  generalize hfp : fewL p 70 = p' at *
  have HFp := Lib.hid hfp
  clear hfp hp hT
  go_enter Tryd.func4, Tryd.ntmps4
  go_wp2_with fail
  refine (sane_any w HT.out).mono ?_
  rintro e w1 ⟨rfl, hb⟩
  have HL := Lib.hid (HL.out.step hb)
  clear hb
  go_wp2_with fail
  refine (few_live HL.out (HL.out.old HP.out) 70 (by omega)).mono ?_
  rintro e w2 ⟨v1, rfl, hL⟩
  rw [HFp.out] at hL
  obtain ⟨a1, c1, rfl, _, _⟩ := (hL.strs (.head _)).shape
  have HL := Lib.hid hL
  clear hL
  have HmL := Lib.hid HmP.out.1
  generalize hpm : p'.length = pm at *
  go_wp2_with fail
  refine (verify_live HL.out root s' n i Hn.out Hi.out (by have := HS1.out; omega) (HL.out.strs (v := .slice a1 pm c1) (l := p') (.head _)) HmP.out.1).mono ?_
  rintro e w4 ⟨rfl, hL⟩
  have HL := Lib.hid hL
  clear hL
  go_wp2_with fail
  refine (refVerify_live HL.out root s' n i Hn.out Hi.out (by have := HS1.out; omega) (HL.out.strs (v := .slice a1 pm c1) (l := p') (.head _)) HmP.out.1).mono ?_
  rintro e w5 ⟨rfl, hL⟩
  have HL := Lib.hid hL
  clear hL
  generalize verB root.data.toList n i s'.data.toList p' = b1 at *
  go_wp2_with fail
  refine (verExt_live HL.out old root i n Hi.out Hn.out (HL.out.strs (v := .slice a1 pm c1) (l := p') (.head _)) HmP.out.1).mono ?_
  rintro e w6 ⟨rfl, hL⟩
  have HL := Lib.hid hL
  clear hL
  go_wp2_with fail
  refine (refVerExt_live HL.out old root i n Hi.out Hn.out (HL.out.strs (v := .slice a1 pm c1) (l := p') (.head _)) HmP.out.1).mono ?_
  rintro e w7 ⟨rfl, hL⟩
  have HL := Lib.hid hL
  clear hL
  generalize verExtB old.data.toList i root.data.toList n p' = b2 at *
  go_wp2
  go_ret
  exact ⟨by first | rfl | (cases b1 <;> cases b2 <;> rfl), HL.out.1⟩
end Go.Proofs.YteemhemnkdgehaaDoor
