/- DigestTreeMatchesReference returns true. -/
import Derived.Test.YteemhemnkdgehaaDoorDLawXAcc
import Derived.Test.YteemhemnkdgehaaDoorDRefP
namespace Go.Proofs.YteemhemnkdgehaaDoor
open Go.RowKit Go.Shelf

theorem refRoot_live {w0 W : World} {L : List (Value × List Bytes)} {v : Value} {l : List Bytes} (h : Live w0 L W) (hs : StrsAt W.heap.size W v l) (hl : Sm l) :
    Calls Tryd.prog 20 #[v] W fun e w' => e = .returned (.string (bs (rootL l))) ∧ Live w0 L w' :=
  (refRoot_any l.length l v W (Nat.le_refl _) hl hs).mono fun _ _ ⟨h1, h2⟩ => ⟨h1, h.step h2⟩
theorem refProof_live {w0 W : World} {L : List (Value × List Bytes)} {v : Value} {l : List Bytes} (h : Live w0 L W) (hs : StrsAt W.heap.size W v l) (hl : Sm l) (i : Int) (hi : I64 i) :
    Calls Tryd.prog 15 #[v, .int .i64 i] W fun e w' => ∃ vp, e = .returned (.tuple #[vp, .int .i64 (proofE l i).2]) ∧ Live w0 ((vp, (proofE l i).1) :: L) w' :=
  (refProof_any l.length l i v W (Nat.le_refl _) hl hs hi).mono fun _ _ ⟨vp, h1, h2, h3⟩ => ⟨vp, h1, (h.step h3).add h2⟩
theorem refExt_live {w0 W : World} {L : List (Value × List Bytes)} {v : Value} {l : List Bytes} (h : Live w0 L W) (hs : StrsAt W.heap.size W v l) (hl : Sm l) (i : Int) :
    Calls Tryd.prog 17 #[v, .int .i64 i] W fun e w' => ∃ vp, e = .returned (.tuple #[vp, .int .i64 (extE l i).2]) ∧ Live w0 ((vp, (extE l i).1) :: L) w' :=
  (refExt_any l i v W hl hs).mono fun _ _ ⟨vp, h1, h2, h3⟩ => ⟨vp, h1, (h.step h3).add h2⟩
set_option maxRecDepth 100000 in
set_option maxHeartbeats 4000000 in
theorem treem_any (vl : Value) (l0 : List Bytes) (i m : Int) (w : World) (hi : I64 i) (_hm : I64 m) (hp : StrsAt w.heap.size w vl l0) (hT : Rounds w) :
    Calls Tryd.prog 3 #[vl, .int .i64 i, .int .i64 m] w fun e w' => e = .returned (.bool true) ∧ Below w.heap.size w w' := by
  have HL := Lib.hid (Live.start hT)
  have HP := Lib.hid hp
  have HT := Lib.hid hT
  obtain ⟨ap, cp, rfl, _, _⟩ := hp.shape
  have Hi := Lib.hid hi
  have HmP := Lib.hid (fewL_sm l0 40 (by omega))
  generalize l0.length = pl at *
  generalize hfp : fewL l0 40 = l at *
  have HFp := Lib.hid hfp
  clear hfp hp hT
  go_enter Tryd.func3, Tryd.ntmps3
  go_wp2_with fail
  refine (sane_any w HT.out).mono ?_
  rintro e w1 ⟨rfl, hb⟩
  have HL := Lib.hid (HL.out.step hb)
  clear hb
  go_wp2_with fail
  refine (few_live HL.out (HL.out.old HP.out) 40 (by omega)).mono ?_
  rintro e w2 ⟨v1, rfl, hL⟩
  rw [HFp.out] at hL
  obtain ⟨a1, c1, rfl, _, _⟩ := (hL.strs (.head _)).shape
  have HL := Lib.hid hL
  clear hL
  generalize l.length = n at *
  go_wp2_with fail
  refine (proof_live HL.out (HL.out.strs (.head _)) HmP.out i).mono ?_
  rintro e w3 ⟨v2, rfl, hL⟩
  obtain ⟨a2, c2, rfl, _, _⟩ := (hL.strs (.head _)).shape
  have HL := Lib.hid hL
  clear hL
  go_wp2_with fail
  refine (refProof_live HL.out (HL.out.strs (v := .slice a1 n c1) (.tail _ (.head _))) HmP.out i Hi.out).mono ?_
  rintro e w4 ⟨v3, rfl, hL⟩
  obtain ⟨a3, c3, rfl, _, _⟩ := (hL.strs (.head _)).shape
  have HL := Lib.hid hL
  clear hL
  generalize (proofE l i).2 = e1 at *
  generalize (proofE l i).1 = p at *
  go_wp2_with fail
  refine (ext_live HL.out (HL.out.strs (v := .slice a1 n c1) (.tail _ (.tail _ (.head _)))) HmP.out m).mono ?_
  rintro e w5 ⟨v4, rfl, hL⟩
  obtain ⟨a4, c4, rfl, _, _⟩ := (hL.strs (.head _)).shape
  have HL := Lib.hid hL
  clear hL
  go_wp2_with fail
  refine (refExt_live HL.out (HL.out.strs (v := .slice a1 n c1) (.tail _ (.tail _ (.tail _ (.head _))))) HmP.out m).mono ?_
  rintro e w6 ⟨v5, rfl, hL⟩
  obtain ⟨a5, c5, rfl, _, _⟩ := (hL.strs (.head _)).shape
  have HL := Lib.hid hL
  clear hL
  generalize (extE l m).2 = e2 at *
  generalize (extE l m).1 = x at *
  go_wp2_with fail
  refine (same_live HL.out (HL.out.strs (l := p) (.tail _ (.tail _ (.tail _ (.head _))))) (HL.out.strs (l := p) (.tail _ (.tail _ (.head _))))).mono ?_
  rintro e w7 ⟨rfl, hL⟩
  rw [beq_self_eq_true]
  have HL := Lib.hid hL
  clear hL
  go_wp2_with fail
  refine (same_live HL.out (HL.out.strs (l := x) (.tail _ (.head _))) (HL.out.strs (l := x) (.head _))).mono ?_
  rintro e w8 ⟨rfl, hL⟩
  rw [beq_self_eq_true]
  have HL := Lib.hid hL
  clear hL
  go_wp2_with fail
  refine (root_live HL.out (HL.out.strs (v := .slice a1 n c1) (.tail _ (.tail _ (.tail _ (.tail _ (.head _)))))) HmP.out).mono ?_
  rintro e w9 ⟨rfl, hL⟩
  have HL := Lib.hid hL
  clear hL
  go_wp2_with fail
  refine (refRoot_live HL.out (HL.out.strs (v := .slice a1 n c1) (.tail _ (.tail _ (.tail _ (.tail _ (.head _)))))) HmP.out).mono ?_
  rintro e w10 ⟨rfl, hL⟩
  have HL := Lib.hid hL
  clear hL
  generalize bs (rootL l) = R at *
  go_wp2
  go_ret
  exact ⟨rfl, HL.out.1⟩
end Go.Proofs.YteemhemnkdgehaaDoor
