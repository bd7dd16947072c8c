/- The functions of the statements on digest: heads. -/
import Derived.Test.YteemhemnkdgehaaDoorDLive
namespace Go.Proofs.YteemhemnkdgehaaDoor
open Go.RowKit Go.Shelf

def z32 : Bytes := List.replicate 32 0
/-- The head of a list of records, the last one first; and what is digested for it. -/
def headR : List Bytes → Bytes
  | [] => z32
  | x :: t => chainB (headR t) x
def headsR : List Bytes → List Bytes
  | [] => []
  | x :: t => (2 :: (headR t ++ x)) :: headsR t
theorem headR_length (l : List Bytes) : (headR l).length = 32 := by
  cases l with
  | nil => rfl
  | cons x t => exact chainB_length _ _
theorem headsR_length (l : List Bytes) : (headsR l).length = l.length := by
  induction l with
  | nil => rfl
  | cons x t ih => simp [headsR, ih]
theorem headsR_el (l : List Bytes) (h : ∀ x ∈ l, x.length ≤ 1000) : ∀ x ∈ headsR l, x.length ≤ 1000000 := by
  induction l with
  | nil => intro x hx; simp [headsR] at hx
  | cons y t ih =>
    intro x hx
    rcases List.mem_cons.1 hx with rfl | hx
    · have := headR_length t
      have := h y (by simp)
      simp; omega
    · exact ih (fun z hz => h z (by simp [hz])) x hx
theorem takeR_succ (l : List Bytes) (k : Nat) (h : k < l.length) : (l.take (k + 1)).reverse = l.getD k [] :: (l.take k).reverse := by
  rw [take_getD l [] k h, List.reverse_append]
  rfl
theorem mk32 (W : World) : ∃ W1, (Instr.makeSlice 46 (.int .i64 32) (.int .i64 32)).run Tryd.prog W = .ok (.slice (some ⟨W.heap.size, 0, none⟩) 32 32) W1 ∧ Below W.heap.size W W1 ∧ W.heap.size < W1.heap.size ∧
    ∀ W2, Below W1.heap.size W1 W2 → (convert 46 9 (.slice (some ⟨W.heap.size, 0, none⟩) 32 32)).run Tryd.prog W2 = .ok (.string (bs z32)) W2 := by
  obtain ⟨i0, hi, hz0, hz1, hz2⟩ := info_parts info_u8
  obtain ⟨W1, h1, h2, h3⟩ := run_makeSlice_full (P := Tryd.prog) (w := W) W.heap.size 46 5 i0 (.int .u8 0) 1 Tryd.underlying46 hi hz0 hz1 .i64 .i64 32 (by omega) (by rw [hz2]; omega) (by unfold maxLen; omega) (Nat.le_refl _)
  refine ⟨W1, h1, ⟨h3.os, h3.tape, h3.output, h3.size, fun k hk => h3.block k hk (by simp)⟩, (World.ownsRow.lt h2 W.heap.size rfl).2, fun W2 hW => ?_⟩
  refine run_convert_bytes_back W2 46 9 5 ⟨W.heap.size, 0, none⟩ 32 z32 Tryd.underlying46 Tryd.underlying5 Tryd.underlying9 fun j hj => ?_
  have hj' : j < 32 := hj
  have hlt := (World.ownsRow.lt h2 W.heap.size rfl).2
  have hc := World.ownsRow.cellAt h2 j (by omega)
  rw [Addr.add_mid, Nat.zero_add, hW.cell (p := ⟨W.heap.size, j, none⟩) hlt, hc]
  have hm : (madeCells (Value.int .u8 0).cells (32 * 1)).toList = List.replicate 32 (.int .u8 0) := toList_madeCells_one _ _
  rw [hm, List.getElem?_replicate, if_pos hj']
  have hz : z32[j] = 0 := List.getElem_replicate ..
  exact congrArg (fun z : UInt8 => some (Value.int .u8 (z.toNat : Int))) hz.symm
set_option maxRecDepth 100000 in
set_option maxHeartbeats 1000000 in
theorem heads_any (v : Value) (l : List Bytes) (w : World) (hL : StrsAt w.heap.size w v l) (hl : Sm l) (hT : Rounds w) :
    Calls Tryd.prog 38 #[v] w fun e w' => ∃ rv, e = .returned (.tuple #[rv, .string (bs (headR l.reverse))]) ∧ OwnS w.heap.size w' rv (headsR l.reverse) ∧ Below w.heap.size w w' := by
  obtain ⟨a, c, rfl, hlc, hcm⟩ := hL.shape
  unfold maxLen at hcm
  have HL := Lib.hid hL
  have HT := Lib.hid hT
  have HSm := Lib.hid hl
  have hln := hl.1
  clear hL hT hl
  generalize hn : l.length = n at *
  have Hn := Lib.hid hn
  clear hn
  obtain ⟨W1, hmk, hb1, _, hcv⟩ := mk32 w
  have hconv := hcv W1 (Below.refl _ _)
  clear hcv
  have HZ : Hid (bs z32 = bs (headR (l.take 0).reverse)) := rfl
  generalize hzz : bs z32 = Z at *
  clear hzz
  go_enter Tryd.func38, Tryd.ntmps38
  go_wp2_with fail
  go_loopw [4, 5, 6] (fun h o i wr => ∃ k : Nat, k ≤ n ∧ i = .int .i64 k ∧ h = .string (bs (headR (l.take k).reverse)) ∧ OwnS w.heap.size wr o (headsR (l.take k).reverse) ∧ Below w.heap.size w wr) (fun _ _ i _ => n - (intOf i).toNat)
  case atStart => exact ⟨0, Nat.zero_le _, rfl, by rw [HZ.out], OwnS.nil _ _, hb1⟩
  case round =>
    clear hmk hconv
    obtain ⟨k, hk, rfl, rfl, hO, hB⟩ := hrel
    have hzB := hB.size
    by_cases hlt : k < n
    · obtain ⟨b, off, hae, hb, hcl⟩ := HL.out.at k (by rw [Hn.out]; exact hlt)
      subst hae
      have c1 := (hB.cell (p := ⟨b, off + k, none⟩) hb).trans hcl
      have HC := Lib.hid (show ∀ W : World, Below w.heap.size w W → W.cell? ⟨b, off + k, none⟩ = some (.string (bs (l.getD k []))) from fun W hW => (hW.cell (p := ⟨b, off + k, none⟩) hb).trans hcl)
      have hxl := HSm.out.2 _ (getD_mem' l [] k (by rw [Hn.out]; exact hlt))
      have HTk := Lib.hid (takeR_succ l k (by rw [Hn.out]; exact hlt))
      have hhl := headR_length (l.take k).reverse
      have hll : (headsR (l.take k).reverse).length ≤ 100000 := by rw [headsR_length, List.length_reverse, List.length_take]; omega
      generalize l.getD k [] = x at *
      have HR1 : Hid (headR (l.take (k + 1)).reverse = chainB (headR (l.take k).reverse) x) := by show _ = _; rw [HTk.out]; rfl
      have HR2 : Hid (headsR (l.take (k + 1)).reverse = (2 :: (headR (l.take k).reverse ++ x)) :: headsR (l.take k).reverse) := by show _ = _; rw [HTk.out]; rfl
      generalize headR (l.take k).reverse = h at *
      generalize headsR (l.take k).reverse = o at *
      have HO := Lib.hid hO
      have HB := Lib.hid hB
      have HCh := Lib.hid (fun W (hW : Below w.heap.size w W) => chain_any (bs h) (bs x) W (by rw [bs_size]; omega) (by rw [bs_size]; omega) (HT.out.below hW (Nat.le_refl _)))
      rw [bs_list, bs_list] at HCh
      have HCt : Hid ((⟨#[2]⟩ : ByteArray) ++ bs h ++ bs x = bs (2 :: (h ++ x))) := by show _ = _; rw [cat_bs1, cat_bs]; rfl
      have HOw := Lib.hid (fun W (hh : w.heap.size ≤ W.heap.size) => ownS_lit W w.heap.size (2 :: (h ++ x)) hh)
      rw [← HCt.out] at HOw
      have hhs : (bs h).size = 32 := by rw [bs_size]; exact hhl
      have hxs : (bs x).size ≤ 1000 := by rw [bs_size]; exact hxl
      clear hcl hO hB
      generalize bs h = H at *
      generalize bs x = X at *
      have hno1 : ¬ (9223372036854775807 < 1 + H.size) := by omega
      have hno2 : ¬ (9223372036854775807 < 1 + H.size + X.size) := by omega
      have hno3 : ¬ (9223372036854775807 < (⟨#[2]⟩ : ByteArray).size + H.size) := by show ¬ (_ < 1 + _); omega
      have hno4 : ¬ (9223372036854775807 < ((⟨#[2]⟩ : ByteArray) ++ H).size + X.size) := by rw [ByteArray.size_append]; show ¬ (_ < 1 + _ + _); omega
      go_wp2_with (first
        | (at_builtin; refine append_SS rfl _ _ rfl w.heap.size w.heap.size _ u5 _ o rfl rfl (HOw.out _ hzB) (World.ownsRow.alloc HO.out _) (by simp; omega) (by simp; omega) w (HB.out.alloc hzB _) ?_; intro v5 w3 hO3 hg3 hb3; have HO3 := Lib.hid hO3; have c3 := HC.out _ hb3; clear hO3)
        | (go_at_call 36; refine (HCh.out _ hb3).mono ?_; rintro e w4 ⟨rfl, hb4⟩))
      go_roundw
      case rel => exact ⟨k + 1, by omega, by go_num, by rw [HR1.out], by rw [HR2.out]; exact HO3.out.below hb4 (Nat.le_refl _), hb3.trans (hb4.mono hb3.size)⟩
      case measure => simp [intOf]; omega
    · obtain rfl : k = n := by omega
      have HR : Hid (l.take k = l) := List.take_of_length_le (by rw [Hn.out]; exact Nat.le_refl _)
      rw [HR.out] at hO
      have HO := Lib.hid hO
      clear hO
      go_wp2
      go_ret2
      exact ⟨_, by rw [HR.out]; rfl, HO.out, hB⟩
theorem heads_live {w0 W : World} {L : List (Value × List Bytes)} {v : Value} {l : List Bytes} (h : Live w0 L W) (hs : StrsAt W.heap.size W v l) (hl : Sm l) :
    Calls Tryd.prog 38 #[v] W fun e w' => ∃ rv, e = .returned (.tuple #[rv, .string (bs (headR l.reverse))]) ∧ Live w0 ((rv, headsR l.reverse) :: L) w' :=
  (heads_any v l W hs hl h.2.1).mono fun _ _ ⟨rv, h1, h2, h3⟩ => ⟨rv, h1, (h.step h3).add h2⟩
end Go.Proofs.YteemhemnkdgehaaDoor
