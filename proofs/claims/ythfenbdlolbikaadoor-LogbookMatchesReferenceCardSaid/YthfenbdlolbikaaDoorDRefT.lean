/- The reference's Root and Proof. -/
import Derived.Test.YthfenbdlolbikaaDoorMRefB
import Derived.Test.YthfenbdlolbikaaDoorDMore
set_option linter.unusedVariables false
set_option linter.unusedSimpArgs false
namespace Go.Proofs.YthfenbdlolbikaaDoor
open Go.RowKit Go.Shelf

set_option maxRecDepth 100000 in
set_option maxHeartbeats 2000000 in
theorem refRoot_step (l : List Bytes) (v : Value) (w : World) (hS : Sm l) (hL : StrsAt w.heap.size w v l)
    (hrec : ∀ (l' : List Bytes) (v' : Value) (W : World), l'.length < l.length → Sm l' → StrsAt W.heap.size W v' l' → Calls Tryd.prog 68 #[v'] W fun e w' => e = .returned (.string (bs (rootL l'))) ∧ Below W.heap.size W w') :
    Calls Tryd.prog 68 #[v] w fun e w' => e = .returned (.string (bs (rootL l))) ∧ Below w.heap.size w w' := by
  obtain ⟨a, c, rfl, hlc, hcm⟩ := hL.shape
  unfold maxLen at hcm
  by_cases h0 : l.length = 0
  · have HR : Hid (rootL l = sha []) := by rw [List.eq_nil_of_length_eq_zero h0]; rfl
    have HSm := Lib.hid (refSum_any (⟨#[]⟩ : ByteArray) w (by decide))
    rw [show ((⟨#[]⟩ : ByteArray).data.toList) = [] from rfl] at HSm
    rw [h0]
    clear hrec hS hL
    go_enter Tryd.func68, Tryd.ntmps68
    go_wp2_with (go_at_call 70; refine HSm.out.mono ?_; rintro e w9 ⟨rfl, hb9⟩)
    go_ret
    exact ⟨by rw [HR.out]; rfl, hb9⟩
  · by_cases h1 : l.length = 1
    · obtain ⟨b, off, rfl, hb, hcl⟩ := hL.at 0 (by omega)
      have HR : Hid (rootL l = leafB (l.getD 0 [])) := by
        match l, h1 with
        | [x], _ => exact rootL_one x
      have hxl := hS.2 _ (getD_mem' l [] 0 (by omega))
      have HLf := Lib.hid (refLeaf_any (bs (l.getD 0 [])) w (by rw [bs_size]; omega))
      rw [bs_list] at HLf
      rw [h1]
      have hcl' : w.cell? ⟨b, off, none⟩ = some (.string (bs (l.getD 0 []))) := hcl
      clear hrec hS hL
      generalize l.getD 0 [] = x at *
      generalize bs x = X at *
      go_enter Tryd.func68, Tryd.ntmps68
      go_wp2_with (go_at_call 39; refine HLf.out.mono ?_; rintro e w9 ⟨rfl, hb9⟩)
      go_ret
      exact ⟨by rw [HR.out]; rfl, hb9⟩
    · have h2 : 2 ≤ l.length := by omega
      have hlb := leftN_bd h2
      obtain ⟨b, off, ha⟩ := hL.addr (by omega)
      subst ha
      have hTk := hL.take (leftN l.length) (by omega)
      have hDr := hL.drop (leftN l.length) (by omega)
      have HT1 := Lib.hid (fun W (hW : Below w.heap.size w W) => (hrec (l.take (leftN l.length)) _ W (by rw [List.length_take]; omega) (hS.take _) (hTk.later hW (Nat.le_refl _))).mono fun e w' (h : _ ∧ _) => And.intro h.1 (hW.trans (h.2.mono hW.size)))
      have HT2 := Lib.hid (fun W (hW : Below w.heap.size w W) => (hrec (l.drop (leftN l.length)) _ W (by rw [List.length_drop]; omega) (hS.drop _) (hDr.later hW (Nat.le_refl _))).mono fun e w' (h : _ ∧ _) => And.intro h.1 (hW.trans (h.2.mono hW.size)))
      have HR := Lib.hid (rootL_split h2)
      have hln := hS.1
      clear hrec hS hTk hDr hL
      have HNd := Lib.hid (fun W (hW : Below w.heap.size w W) => (refNode_any (bs (rootL (l.take (leftN l.length)))) (bs (rootL (l.drop (leftN l.length)))) W (by rw [bs_size, rootL_length]; decide) (by rw [bs_size, rootL_length]; decide)).mono fun e w' (h : _ ∧ _) => And.intro h.1 (hW.trans (h.2.mono hW.size)))
      rw [bs_list, bs_list] at HNd
      have HLt := Lib.hid (fun W => refLeft_any l.length W h2 (by omega))
      generalize l.length = N at *
      generalize leftN N = K at *
      generalize rootL (l.take K) = r1 at *
      generalize rootL (l.drop K) = r2 at *
      have e1 : (K : Int) ≤ (N : Int) := by omega
      have e3 : (K : Int) ≤ (c : Int) := by omega
      have e4 : (N : Int) ≤ (c : Int) := by omega
      have hn0 : ((N : Int) == 0) = false := by simp; omega
      have hn1 : ((N : Int) == 1) = false := by simp; omega
      have hB0 := Below.refl w.heap.size w
      go_enter Tryd.func68, Tryd.ntmps68
      go_wp2_with (go_at_call 67; refine (HLt.out _).mono ?_; rintro e w' ⟨rfl, rfl⟩)
      go_region_held3 (fun W => Below w.heap.size w W) (first | exact hBc | exact hB0.drew)
        (first
          | (go_at_call 68; (with_reducible refine (HT1.out _ (by assumption)).mono ?_); rintro e wc ⟨rfl, hBc⟩)
          | (go_at_call 68; (with_reducible refine (HT2.out _ (by assumption)).mono ?_); rintro e wc ⟨rfl, hBc⟩)
          | (go_at_call 69; (with_reducible refine (HNd.out _ (by assumption)).mono ?_); rintro e wc ⟨rfl, hBc⟩))
      all_goals go_wp2
      all_goals go_ret
      all_goals exact ⟨by rw [HR.out]; rfl, hBc⟩
theorem refRoot_any : ∀ (N : Nat) (l : List Bytes) (v : Value) (w : World), l.length ≤ N → Sm l → StrsAt w.heap.size w v l →
    Calls Tryd.prog 68 #[v] w fun e w' => e = .returned (.string (bs (rootL l))) ∧ Below w.heap.size w w'
  | 0, l, v, w, hN, hS, hL => refRoot_step l v w hS hL (fun l' v' W h _ _ => absurd h (by omega))
  | N + 1, l, v, w, hN, hS, hL => refRoot_step l v w hS hL (fun l' v' W h hS' hL' => refRoot_any N l' v' W (by omega) hS' hL')
end Go.Proofs.YthfenbdlolbikaaDoor
