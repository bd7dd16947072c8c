/- The functions of the statements on digest: few, left, binary. -/
import Derived.Test.YteemhemnkdgehaaDoorDVerE
import Derived.Test.YteemhemnkdgehaaDoorDPlain
import Derived.Test.YteemhemnkdgehaaDoorSmall
namespace Go.Proofs.YteemhemnkdgehaaDoor
open Go.RowKit Go.Shelf

/-- What few returns. -/
def fewL (l : List Bytes) (n : Nat) : List Bytes := (l.take n).map (·.take 60)
theorem fewL_succ (l : List Bytes) (k : Nat) (h : k < l.length) : fewL l (k + 1) = fewL l k ++ [(l.getD k []).take 60] := by
  unfold fewL
  rw [take_getD l [] k h, List.map_append, List.map_singleton]
theorem fewL_all (l : List Bytes) (n : Nat) (h : l.length ≤ n) : fewL l n = fewL l l.length := by
  unfold fewL
  rw [List.take_of_length_le h, List.take_length]
theorem fewL_len (l : List Bytes) (n : Nat) : (fewL l n).length = min n l.length := by simp [fewL]
theorem fewL_el (l : List Bytes) (n : Nat) : ∀ x ∈ fewL l n, x.length ≤ 60 := by
  intro x hx
  unfold fewL at hx
  obtain ⟨y, _, rfl⟩ := List.mem_map.1 hx
  rw [List.length_take]
  omega
theorem extract_bs (x : Bytes) (q : Nat) : (bs x).extract 0 q = bs (x.take q) := by
  apply ByteArray.ext
  apply Array.ext'
  simp [bs, ByteArray.data_extract]
set_option maxRecDepth 100000 in
set_option maxHeartbeats 1000000 in
theorem few_any (v : Value) (l : List Bytes) (n : Nat) (w : World) (hL : StrsAt w.heap.size w v l) (hn : n ≤ 100000) :
    Calls Tryd.prog 13 #[v, .int .i64 n] w fun e w' => ∃ rv, e = .returned rv ∧ OwnS w.heap.size w' rv (fewL l n) ∧ Below w.heap.size w w' := by
  obtain ⟨a, c, rfl, hlc, hcm⟩ := hL.shape
  unfold maxLen at hcm
  have HL := Lib.hid hL
  clear hL
  generalize hl : l.length = m at *
  have Hl := Lib.hid hl
  clear hl
  go_enter Tryd.func13, Tryd.ntmps13
  go_wp2
  go_loopw [5, 6] (fun v3 i wr => ∃ k : Nat, k ≤ n ∧ k ≤ m ∧ i = .int .i64 k ∧ Below w.heap.size w wr ∧ OwnS w.heap.size wr v3 (fewL l k)) (fun _ i _ => n - (intOf i).toNat)
  case atStart => exact ⟨0, Nat.zero_le _, Nat.zero_le _, rfl, Below.refl _ _, OwnS.nil _ _⟩
  case round =>
    obtain ⟨k, hk, hkm, rfl, hB, hO⟩ := hrel
    have hzB := hB.size
    have HO := Lib.hid hO
    clear hO
    by_cases h1 : k < m
    · have d1 : decide ((k : Int) < (m : Int)) = true := by simp; omega
      by_cases h2 : k < n
      · have d2 : decide ((k : Int) < (n : Int)) = true := by simp; omega
        obtain ⟨b, off, hae, hb, hcl⟩ := HL.out.at k (by rw [Hl.out]; exact h1)
        subst hae
        have c1 := (hB.cell (p := ⟨b, off + k, none⟩) hb).trans hcl
        have HF := Lib.hid (fewL_succ l k (by rw [Hl.out]; exact h1))
        have hfl : (fewL l k).length < 1099511627776 := by rw [fewL_len]; omega
        generalize l.getD k [] = x at *
        obtain ⟨q, eq, hq1, hq2⟩ := cut_at (bs x) 60 (by omega)
        have HX : Hid ((bs x).extract 0 q = bs (x.take 60)) := by
          show _ = _
          rw [extract_bs]
          rw [bs_size] at hq1 eq
          by_cases hx : 60 < x.length
          · rw [if_pos (by omega)] at eq
            rw [show q = 60 from by omega]
          · rw [if_neg (by omega)] at eq
            rw [List.take_of_length_le (show x.length ≤ q by omega), List.take_of_length_le (show x.length ≤ 60 by omega)]
        have hmin : min (((bs x).size : Nat) : Int) 60 = (q : Int) := by rw [← eq]; split <;> omega
        have hqs : (q : Int) ≤ (((bs x).size : Nat) : Int) := by omega
        clear eq
        generalize hft : (bs x).extract 0 q = t at *
        generalize bs x = X at *
        have HB := Lib.hid hB
        have HC := Lib.hid (show ∀ W : World, Below w.heap.size w W → W.cell? ⟨b, off + k, none⟩ = some (.string X) from fun W hW => (hW.cell (p := ⟨b, off + k, none⟩) hb).trans hcl)
        clear hcl hB c1
        go_wp2_with fail
        refine wp_gen (fun W' => Below w.heap.size w W' ∧ OwnS w.heap.size W' u5 (fewL l k)) ⟨HB.out, HO.out⟩ ?_
        rintro W4 ⟨hB4, hS4⟩
        have HB4 := Lib.hid hB4
        have HS4 := Lib.hid hS4
        have hz4 := hB4.size
        have q1 : W4.drew.cell? ⟨b, off + k, none⟩ = some (.string X) := HC.out W4 hB4
        clear hB4 hS4
        obtain ⟨i0, hi0, hz0, hz1, hz2⟩ := info_parts infoS1
        refine wp_region_noPanic ?_
        go_region_law (refine step_append_lies _ (by rfl) _ _ 22 (by rfl) w.heap.size 9 i0 _ 1 16 Tryd.underlying22 hi0 hz0 hz1 hz2 rfl (by omega) u5 (fewL l k).length _ (by rfl) (World.ownsRow.alloc HS4.out _) ⟨W4.heap.size, 0, none⟩ 1 1 [.string t] (by rfl) (by rfl) (World.news_of_block (heap_alloc_new W4.drew _)) (by simp [Value.oneCell']) (by omega) (by unfold maxLen; omega) (by omega) (by simp; omega) (W4.heap.size + 1) (by simp) ?_; intro gg cap w6 hown6 hgrow hat hlt6)
        all_goals
          refine NoPanic.normal ?_
          have hS6 : OwnS w.heap.size w6 (.slice (some ⟨gg, 0, none⟩) ((fewL l k).length + 1) cap) (fewL l (k + 1)) := by
            unfold OwnS
            rw [HF.out, List.length_append, List.map_append, List.map_singleton, ← HX.out]
            exact hown6
          have hB6 : Below w.heap.size w w6 := (HB4.out.drew.alloc hz4 _).grown hgrow (by simp; omega) (fun k hk => (World.ownsRow.lt (World.ownsRow.alloc (show W4.drew.ownsRow w.heap.size 9 1 u5 _ _ from HS4.out) (.cells #[.string t] 9)) k hk).1)
          clear hown6 hgrow hat hlt6
          change Exit.inBlock _ _ _ (Act.put _ (some 5) _) _
          go_wp2
          go_roundw
          case rel => exact ⟨k + 1, by omega, by omega, by go_num, hB6, hS6⟩
          case measure => simp [intOf]; omega
      · have d2 : decide ((k : Int) < (n : Int)) = false := by simp; omega
        obtain rfl : k = n := by omega
        go_wp2
        go_ret
        exact ⟨_, rfl, HO.out, hB⟩
    · have d1 : decide ((k : Int) < (m : Int)) = false := by simp; omega
      obtain rfl : k = m := by omega
      have HF := Lib.hid (fewL_all l n (by rw [Hl.out]; exact hk))
      rw [Hl.out] at HF
      go_wp2
      go_ret
      exact ⟨_, rfl, by rw [HF.out]; exact HO.out, hB⟩
end Go.Proofs.YteemhemnkdgehaaDoor
