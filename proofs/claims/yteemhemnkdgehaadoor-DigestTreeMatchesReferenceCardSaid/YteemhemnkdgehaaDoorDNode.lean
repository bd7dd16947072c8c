/- digest.Leaf, Node, Chain. -/
import Derived.Test.YteemhemnkdgehaaDoorDSum
import Derived.Test.YteemhemnkdgehaaDoorShelf
namespace Go.Proofs.YteemhemnkdgehaaDoor
open Go.RowKit Go.Shelf

theorem join_nil (xs : List Bytes) : Lib.join xs [] = xs.flatten := by
  unfold Lib.join List.intercalate
  induction xs with
  | nil => rfl
  | cons a t ih =>
    cases t with
    | nil => simp
    | cons b t => rw [List.intersperse_cons_cons, List.flatten_cons, List.flatten_cons, ih]; simp
theorem cat_list (m : ByteArray) (l : Bytes) : (m ++ (⟨l.toArray⟩ : ByteArray)).data.toList = m.data.toList ++ l := by simp
theorem cat_size (m : ByteArray) (l : Bytes) : (m ++ (⟨l.toArray⟩ : ByteArray)).size = m.size + l.length := by
  show (m ++ (⟨l.toArray⟩ : ByteArray)).data.size = _
  rw [← Array.length_toList, cat_list, List.length_append]
  rfl
set_option maxRecDepth 100000 in
theorem marked1_any (m : ByteArray) (xs : List ByteArray) (g Bm n c : Nat) (hn : xs.length = n) (hnc : n ≤ c) (w : World) (hm : w.cell? ⟨Bm, 0, none⟩ = some (.string m)) (hc : ∀ (j : Nat) x, xs[j]? = some x → w.cell? ⟨g, 0 + j, none⟩ = some (.string x)) (hg : g < w.heap.size)
    (hN : xs.length ≤ 140737488355328) (hs : m.size + (xs.map (·.data.toList)).flatten.length ≤ 1099511627776) (hT : Rounds w) :
    Calls Tryd.prog 64 #[.slice (some ⟨g, 0, none⟩) n c, .pointer (some ⟨Bm, 0, none⟩)] w fun e w' => e = .returned (.string (bs (sha (m.data.toList ++ (xs.map (·.data.toList)).flatten)))) ∧ Below w.heap.size w w' := by
  have hBm : Bm < w.heap.size := World.block_lt_of_cell? w _ hm
  subst hn
  have HJ := Lib.hid (Tryd.strings_Join g 0 c xs (⟨#[]⟩ : ByteArray) w.drew hc hg hN hnc (by rw [show ((⟨#[]⟩ : ByteArray).data.toList) = [] from rfl, join_nil]; omega))
  rw [show ((⟨#[]⟩ : ByteArray).data.toList) = [] from rfl, join_nil] at HJ
  have HT := Lib.hid hT
  generalize (xs.map (·.data.toList)).flatten = F at *
  have HS : Hid (∀ W, Below w.heap.size w W → Calls Tryd.prog 30 #[.string (m ++ (⟨F.toArray⟩ : ByteArray))] W fun e w' => e = .returned (.string (bs (sha (m.data.toList ++ F)))) ∧ Below W.heap.size W w') := fun W hW => by
    have := sum_any (m ++ (⟨F.toArray⟩ : ByteArray)) W (by rw [cat_size]; exact hs) (HT.out.below hW (Nat.le_refl _))
    rwa [cat_list] at this
  have hno : ¬ (9223372036854775807 < m.size + (⟨F.toArray⟩ : ByteArray).size) := by have : (⟨F.toArray⟩ : ByteArray).size = F.length := bs_size F; omega
  generalize (⟨F.toArray⟩ : ByteArray) = J at *
  have HM := Lib.hid hm
  have hB0 : Below w.heap.size w w.drew := (Below.refl _ _).drew
  clear hc hT hN hs hnc
  generalize xs.length = n at *
  go_enter Tryd.func64, Tryd.ntmps64
  go_wp2
  go_region_held3 (fun W' => W'.cell? ⟨Bm, 0, none⟩ = some (.string m)) (first | exact hm | exact hcb | exact hcb')
    (first | (go_at_call 65; refine HJ.out.mono ?_; rintro e w2 ⟨rfl, hb2⟩; have hb2' : Below w.heap.size w w2 := hB0.trans hb2; have hcb : w2.cell? ⟨Bm, 0, none⟩ = some (.string m) := (hb2'.cell (p := ⟨Bm, 0, none⟩) hBm).trans HM.out) | (go_at_call 30; refine (HS.out _ hb2').mono ?_; rintro e w3 ⟨rfl, hb3⟩; have hcb' : w3.cell? ⟨Bm, 0, none⟩ = some (.string m) := ((hb2'.trans (hb3.mono hb2'.size)).cell (p := ⟨Bm, 0, none⟩) hBm).trans HM.out))
  rename_i hHeld
  clear hHeld
  go_wp2
  go_ret
  exact ⟨rfl, hb2'.trans (hb3.mono hb2'.size)⟩
theorem marked_any (m : ByteArray) (w : World) :
    Calls Tryd.prog 53 #[.string m] w fun e w' => e = .returned (.func (.func 64) #[] #[.pointer (some ⟨w.heap.size, 0, none⟩)]) ∧ w' = w.alloc (.cells #[.string m] 9) := by
  go_enter Tryd.func53, Tryd.ntmps53
  go_wp2
  go_ret
  exact ⟨rfl, rfl⟩
theorem egMark (args : Array Value) (w : World) : (callFunc 64 args).run Tryd.prog w = .ok (.enter 64 args) w := enters_of Tryd.func64 (by kernel_rfl) rfl args w
set_option maxRecDepth 100000 in
theorem leaf_any (x : ByteArray) (w : World) (hs : x.size ≤ 274877906944) (hT : Rounds w) :
    Calls Tryd.prog 29 #[.string x] w fun e w' => e = .returned (.string (bs (leafB x.data.toList))) ∧ Below w.heap.size w w' := by
  have hb0 : Below w.heap.size w ((w.alloc (.cells #[.string (⟨#[0]⟩ : ByteArray)] 9)).alloc (.cells #[.string x] 9)) := ((Below.refl _ _).alloc (Nat.le_refl _) _).alloc (by simp) _
  have HM := Lib.hid (marked1_any ⟨#[0]⟩ [x] (w.heap.size + 1) w.heap.size 1 1 rfl (Nat.le_refl _) _ (cell_a2 (W := w) (t := 9) (o := .cells #[.string x] 9) rfl rfl) (fun j y hy => by
    have hj : j = 0 := by have := (List.getElem?_eq_some_iff.1 hy).1; simpa using this
    subst hj
    cases hy
    exact cell_a1 (by simp) rfl) (by simp) (by simp) (by simp only [List.map_cons, List.map_nil, List.flatten_cons, List.flatten_nil, List.append_nil]; show 1 + x.size ≤ _; omega) (hT.below hb0 (Nat.le_refl _)))
  have hB := Lib.hid hb0
  rw [show ((⟨#[0]⟩ : ByteArray).data.toList ++ ([x].map (·.data.toList)).flatten) = 0 :: x.data.toList from by simp] at HM
  have HF : Hid (leafB x.data.toList = sha (0 :: x.data.toList)) := rfl
  generalize sha (0 :: x.data.toList) = y at *
  clear hT hb0
  go_enter Tryd.func29, Tryd.ntmps29
  have eg := egMark
  go_wp2_with (first | (go_at_call 53; refine (marked_any _ _).mono ?_; rintro e w' ⟨rfl, rfl⟩) | (go_at_fn 64; refine HM.out.mono ?_; rintro e w2 ⟨rfl, hb2⟩))
  go_ret
  exact ⟨by rw [HF.out]; rfl, hB.out.trans (hb2.mono hB.out.size)⟩
set_option maxRecDepth 100000 in
theorem node_any (x y : ByteArray) (w : World) (hs : x.size ≤ 274877906944) (hs' : y.size ≤ 274877906944) (hT : Rounds w) :
    Calls Tryd.prog 32 #[.string x, .string y] w fun e w' => e = .returned (.string (bs (nodeB x.data.toList y.data.toList))) ∧ Below w.heap.size w w' := by
  have hb0 : Below w.heap.size w ((w.alloc (.cells #[.string (⟨#[1]⟩ : ByteArray)] 9)).alloc (.cells #[.string x, .string y] 9)) := ((Below.refl _ _).alloc (Nat.le_refl _) _).alloc (by simp) _
  have HM := Lib.hid (marked1_any ⟨#[1]⟩ [x, y] (w.heap.size + 1) w.heap.size 2 2 rfl (Nat.le_refl _) _ (cell_a2 (W := w) (t := 9) (o := .cells #[.string x, .string y] 9) rfl rfl) (fun j z hz => by
    have hj : j = 0 ∨ j = 1 := by have : j < 2 := (List.getElem?_eq_some_iff.1 hz).1; omega
    rcases hj with rfl | rfl
    · cases hz
      exact cell_a1 (by simp) rfl
    · cases hz
      exact cell_a1 (by simp) rfl) (by simp) (by simp) (by simp only [List.map_cons, List.map_nil, List.flatten_cons, List.flatten_nil, List.append_nil, List.length_append]; show 1 + (x.size + y.size) ≤ _; omega) (hT.below hb0 (Nat.le_refl _)))
  have hB := Lib.hid hb0
  rw [show ((⟨#[1]⟩ : ByteArray).data.toList ++ ([x, y].map (·.data.toList)).flatten) = 1 :: (x.data.toList ++ y.data.toList) from by simp] at HM
  have HF : Hid (nodeB x.data.toList y.data.toList = sha (1 :: (x.data.toList ++ y.data.toList))) := rfl
  generalize sha (1 :: (x.data.toList ++ y.data.toList)) = z at *
  clear hT hb0
  go_enter Tryd.func32, Tryd.ntmps32
  have eg := egMark
  go_wp2_with (first | (go_at_call 53; refine (marked_any _ _).mono ?_; rintro e w' ⟨rfl, rfl⟩) | (go_at_fn 64; refine HM.out.mono ?_; rintro e w2 ⟨rfl, hb2⟩))
  go_ret
  exact ⟨by rw [HF.out]; rfl, hB.out.trans (hb2.mono hB.out.size)⟩
set_option maxRecDepth 100000 in
theorem chain_any (x y : ByteArray) (w : World) (hs : x.size ≤ 274877906944) (hs' : y.size ≤ 274877906944) (hT : Rounds w) :
    Calls Tryd.prog 36 #[.string x, .string y] w fun e w' => e = .returned (.string (bs (chainB x.data.toList y.data.toList))) ∧ Below w.heap.size w w' := by
  have hb0 : Below w.heap.size w ((w.alloc (.cells #[.string (⟨#[2]⟩ : ByteArray)] 9)).alloc (.cells #[.string x, .string y] 9)) := ((Below.refl _ _).alloc (Nat.le_refl _) _).alloc (by simp) _
  have HM := Lib.hid (marked1_any ⟨#[2]⟩ [x, y] (w.heap.size + 1) w.heap.size 2 2 rfl (Nat.le_refl _) _ (cell_a2 (W := w) (t := 9) (o := .cells #[.string x, .string y] 9) rfl rfl) (fun j z hz => by
    have hj : j = 0 ∨ j = 1 := by have : j < 2 := (List.getElem?_eq_some_iff.1 hz).1; omega
    rcases hj with rfl | rfl
    · cases hz
      exact cell_a1 (by simp) rfl
    · cases hz
      exact cell_a1 (by simp) rfl) (by simp) (by simp) (by simp only [List.map_cons, List.map_nil, List.flatten_cons, List.flatten_nil, List.append_nil, List.length_append]; show 1 + (x.size + y.size) ≤ _; omega) (hT.below hb0 (Nat.le_refl _)))
  have hB := Lib.hid hb0
  rw [show ((⟨#[2]⟩ : ByteArray).data.toList ++ ([x, y].map (·.data.toList)).flatten) = 2 :: (x.data.toList ++ y.data.toList) from by simp] at HM
  have HF : Hid (chainB x.data.toList y.data.toList = sha (2 :: (x.data.toList ++ y.data.toList))) := rfl
  generalize sha (2 :: (x.data.toList ++ y.data.toList)) = z at *
  clear hT hb0
  go_enter Tryd.func36, Tryd.ntmps36
  have eg := egMark
  go_wp2_with (first | (go_at_call 53; refine (marked_any _ _).mono ?_; rintro e w' ⟨rfl, rfl⟩) | (go_at_fn 64; refine HM.out.mono ?_; rintro e w2 ⟨rfl, hb2⟩))
  go_ret
  exact ⟨by rw [HF.out]; rfl, hB.out.trans (hb2.mono hB.out.size)⟩
end Go.Proofs.YteemhemnkdgehaaDoor
