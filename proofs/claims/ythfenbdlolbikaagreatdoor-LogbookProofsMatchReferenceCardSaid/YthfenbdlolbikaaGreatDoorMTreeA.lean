import Derived.Test.YthfenbdlolbikaaGreatDoorMShaD
import Derived.Test.YthfenbdlolbikaaGreatDoorShelf
set_option linter.unusedVariables false
set_option linter.unusedSimpArgs false

section
/- digest.Leaf, Node, Chain. -/
namespace Go.Proofs.YthfenbdlolbikaaGreatDoor
open Go.RowKit Go.Shelf

theorem join_nil (xs : List Bytes) : Lib.join xs [] = xs.flatten := by
  unfold Lib.join List.intercalate
  induction xs with
  | nil => rfl
  | cons a t ih =>
    cases t with
    | nil => simp
    | cons b t => rw [List.intersperse_cons_cons, List.flatten_cons, List.flatten_cons, ih]; simp
theorem cat_list (m : ByteArray) (l : Bytes) : (m ++ (⟨l.toArray⟩ : ByteArray)).data.toList = m.data.toList ++ l := by simp
theorem cat_size (m : ByteArray) (l : Bytes) : (m ++ (⟨l.toArray⟩ : ByteArray)).size = m.size + l.length := by
  show (m ++ (⟨l.toArray⟩ : ByteArray)).data.size = _
  rw [← Array.length_toList, cat_list, List.length_append]
  rfl
set_option maxRecDepth 100000 in
theorem marked1_any (m : ByteArray) (xs : List ByteArray) (g Bm n c : Nat) (hn : xs.length = n) (hnc : n ≤ c) (w : World) (hm : w.cell? ⟨Bm, 0, none⟩ = some (.string m)) (hc : ∀ (j : Nat) x, xs[j]? = some x → w.cell? ⟨g, 0 + j, none⟩ = some (.string x)) (hg : g < w.heap.size)
    (hN : xs.length ≤ 140737488355328) (hs : m.size + (xs.map (·.data.toList)).flatten.length ≤ 1099511627776) (hT : Rounds w) :
    Calls Tryz.prog 112 #[.slice (some ⟨g, 0, none⟩) n c, .pointer (some ⟨Bm, 0, none⟩)] w fun e w' => e = .returned (.string (bs (sha (m.data.toList ++ (xs.map (·.data.toList)).flatten)))) ∧ Below w.heap.size w w' := by
  have hBm : Bm < w.heap.size := World.block_lt_of_cell? w _ hm
  subst hn
  have HJ := Lib.hid (Tryz.strings_Join g 0 c xs (⟨#[]⟩ : ByteArray) w.drew hc hg hN hnc (by rw [show ((⟨#[]⟩ : ByteArray).data.toList) = [] from rfl, join_nil]; omega))
  rw [show ((⟨#[]⟩ : ByteArray).data.toList) = [] from rfl, join_nil] at HJ
  have HT := Lib.hid hT
  generalize (xs.map (·.data.toList)).flatten = F at *
  have HS : Hid (∀ W, Below w.heap.size w W → Calls Tryz.prog 77 #[.string (m ++ (⟨F.toArray⟩ : ByteArray))] W fun e w' => e = .returned (.string (bs (sha (m.data.toList ++ F)))) ∧ Below W.heap.size W w') := fun W hW => by
    have := sum_any (m ++ (⟨F.toArray⟩ : ByteArray)) W (by rw [cat_size]; exact hs) (HT.out.below hW (Nat.le_refl _))
    rwa [cat_list] at this
  have hno : ¬ (9223372036854775807 < m.size + (⟨F.toArray⟩ : ByteArray).size) := by have : (⟨F.toArray⟩ : ByteArray).size = F.length := bs_size F; omega
  generalize (⟨F.toArray⟩ : ByteArray) = J at *
  have HM := Lib.hid hm
  have hB0 : Below w.heap.size w w.drew := (Below.refl _ _).drew
  clear hc hT hN hs hnc
  generalize xs.length = n at *
  go_enter Tryz.func112, Tryz.ntmps112
  go_wp2
  go_region_held3 (fun W' => W'.cell? ⟨Bm, 0, none⟩ = some (.string m)) (first | exact hm | exact hcb | exact hcb')
    (first | (go_at_call 113; refine HJ.out.mono ?_; rintro e w2 ⟨rfl, hb2⟩; have hb2' : Below w.heap.size w w2 := hB0.trans hb2; have hcb : w2.cell? ⟨Bm, 0, none⟩ = some (.string m) := (hb2'.cell (p := ⟨Bm, 0, none⟩) hBm).trans HM.out) | (go_at_call 77; refine (HS.out _ hb2').mono ?_; rintro e w3 ⟨rfl, hb3⟩; have hcb' : w3.cell? ⟨Bm, 0, none⟩ = some (.string m) := ((hb2'.trans (hb3.mono hb2'.size)).cell (p := ⟨Bm, 0, none⟩) hBm).trans HM.out))
  rename_i hHeld
  clear hHeld
  go_wp2
  go_ret
  exact ⟨rfl, hb2'.trans (hb3.mono hb2'.size)⟩
theorem marked_any (m : ByteArray) (w : World) :
    Calls Tryz.prog 99 #[.string m] w fun e w' => e = .returned (.func (.func 112) #[] #[.pointer (some ⟨w.heap.size, 0, none⟩)]) ∧ w' = w.alloc (.cells #[.string m] 9) := by
  go_enter Tryz.func99, Tryz.ntmps99
  go_wp2
  go_ret
  exact ⟨rfl, rfl⟩
theorem egMark (args : Array Value) (w : World) : (callFunc 112 args).run Tryz.prog w = .ok (.enter 112 args) w := enters_of Tryz.func112 (by kernel_rfl) rfl args w
set_option maxRecDepth 100000 in
theorem leaf_any (x : ByteArray) (w : World) (hs : x.size ≤ 274877906944) (hT : Rounds w) :
    Calls Tryz.prog 75 #[.string x] w fun e w' => e = .returned (.string (bs (leafB x.data.toList))) ∧ Below w.heap.size w w' := by
  have hb0 : Below w.heap.size w ((w.alloc (.cells #[.string (⟨#[0]⟩ : ByteArray)] 9)).alloc (.cells #[.string x] 9)) := ((Below.refl _ _).alloc (Nat.le_refl _) _).alloc (by simp) _
  have HM := Lib.hid (marked1_any ⟨#[0]⟩ [x] (w.heap.size + 1) w.heap.size 1 1 rfl (Nat.le_refl _) _ (cell_a2 (W := w) (t := 9) (o := .cells #[.string x] 9) rfl rfl) (fun j y hy => by
    have hj : j = 0 := by have := (List.getElem?_eq_some_iff.1 hy).1; simpa using this
    subst hj
    cases hy
    exact cell_a1 (by simp) rfl) (by simp) (by simp) (by simp only [List.map_cons, List.map_nil, List.flatten_cons, List.flatten_nil, List.append_nil]; show 1 + x.size ≤ _; omega) (hT.below hb0 (Nat.le_refl _)))
  have hB := Lib.hid hb0
  rw [show ((⟨#[0]⟩ : ByteArray).data.toList ++ ([x].map (·.data.toList)).flatten) = 0 :: x.data.toList from by simp] at HM
  have HF : Hid (leafB x.data.toList = sha (0 :: x.data.toList)) := rfl
  generalize sha (0 :: x.data.toList) = y at *
  clear hT hb0
  go_enter Tryz.func75, Tryz.ntmps75
  have eg := egMark
  go_wp2_with (first | (go_at_call 99; refine (marked_any _ _).mono ?_; rintro e w' ⟨rfl, rfl⟩) | (go_at_fn 112; refine HM.out.mono ?_; rintro e w2 ⟨rfl, hb2⟩))
  go_ret
  exact ⟨by rw [HF.out]; rfl, hB.out.trans (hb2.mono hB.out.size)⟩
set_option maxRecDepth 100000 in
theorem node_any (x y : ByteArray) (w : World) (hs : x.size ≤ 274877906944) (hs' : y.size ≤ 274877906944) (hT : Rounds w) :
    Calls Tryz.prog 76 #[.string x, .string y] w fun e w' => e = .returned (.string (bs (nodeB x.data.toList y.data.toList))) ∧ Below w.heap.size w w' := by
  have hb0 : Below w.heap.size w ((w.alloc (.cells #[.string (⟨#[1]⟩ : ByteArray)] 9)).alloc (.cells #[.string x, .string y] 9)) := ((Below.refl _ _).alloc (Nat.le_refl _) _).alloc (by simp) _
  have HM := Lib.hid (marked1_any ⟨#[1]⟩ [x, y] (w.heap.size + 1) w.heap.size 2 2 rfl (Nat.le_refl _) _ (cell_a2 (W := w) (t := 9) (o := .cells #[.string x, .string y] 9) rfl rfl) (fun j z hz => by
    have hj : j = 0 ∨ j = 1 := by have : j < 2 := (List.getElem?_eq_some_iff.1 hz).1; omega
    rcases hj with rfl | rfl
    · cases hz
      exact cell_a1 (by simp) rfl
    · cases hz
      exact cell_a1 (by simp) rfl) (by simp) (by simp) (by simp only [List.map_cons, List.map_nil, List.flatten_cons, List.flatten_nil, List.append_nil, List.length_append]; show 1 + (x.size + y.size) ≤ _; omega) (hT.below hb0 (Nat.le_refl _)))
  have hB := Lib.hid hb0
  rw [show ((⟨#[1]⟩ : ByteArray).data.toList ++ ([x, y].map (·.data.toList)).flatten) = 1 :: (x.data.toList ++ y.data.toList) from by simp] at HM
  have HF : Hid (nodeB x.data.toList y.data.toList = sha (1 :: (x.data.toList ++ y.data.toList))) := rfl
  generalize sha (1 :: (x.data.toList ++ y.data.toList)) = z at *
  clear hT hb0
  go_enter Tryz.func76, Tryz.ntmps76
  have eg := egMark
  go_wp2_with (first | (go_at_call 99; refine (marked_any _ _).mono ?_; rintro e w' ⟨rfl, rfl⟩) | (go_at_fn 112; refine HM.out.mono ?_; rintro e w2 ⟨rfl, hb2⟩))
  go_ret
  exact ⟨by rw [HF.out]; rfl, hB.out.trans (hb2.mono hB.out.size)⟩
end Go.Proofs.YthfenbdlolbikaaGreatDoor
end

section
/- slices.Backward at []string: its iterator yields the elements, the last one first. -/
namespace Go.Proofs.YthfenbdlolbikaaGreatDoor
open Go.RowKit Go.Shelf
attribute [local go_sem] Oper.semAt_some

/-- The first k numbers below m, the greatest first. -/
def dn (m k : Nat) : List (Fin m) := (List.range k).filterMap fun j => if h : j < m then some ⟨m - 1 - j, by omega⟩ else none
theorem dn_succ (m k : Nat) (h : k < m) : dn m (k + 1) = dn m k ++ [⟨m - 1 - k, by omega⟩] := by
  unfold dn
  rw [List.range_succ, List.filterMap_append]
  simp [h]
theorem dn_length (m : Nat) : ∀ k, k ≤ m → (dn m k).length = k
  | 0, _ => rfl
  | k + 1, h => by rw [dn_succ m k h, List.length_append, dn_length m k (by omega)]; rfl
theorem back_any (v : Value) (hv : ∃ a n c, v = .slice a n c) (w : World) :
    Calls Tryz.prog 78 #[v] w fun e w' => e = .returned (.func (.func 103) #[] #[.pointer (some ⟨w.heap.size, 0, none⟩)]) ∧ w' = w.alloc (.cells #[v] 26) := by
  obtain ⟨a, n, c, rfl⟩ := hv
  go_enter Tryz.func78, Tryz.ntmps78
  go_wp2
  go_ret
  exact ⟨rfl, rfl⟩

set_option maxRecDepth 100000 in
set_option maxHeartbeats 400000 in
theorem back1_seq (n Bs gb off m C : Nat) (a : Option Addr) (R : Nat → ByteArray) (Kp : World → World → Prop) (w : World) (hs : Boxed w Bs 26 (.slice a m C)) (hm : m ≤ 1099511627776)
    (ha : 0 < m → a = some ⟨gb, off, none⟩) (hc : ∀ i, i < m → w.cell? ⟨gb, off + i, none⟩ = some (.string (R i))) (hKs : ∀ A B, Kp A B → B.heap[Bs]? = A.heap[Bs]?) (hKg : ∀ A B, Kp A B → B.heap[gb]? = A.heap[gb]?) :
    SeqStopsK Fence.wide n Tryz.prog 103 #[.pointer (some ⟨Bs, 0, none⟩)] (fun i : Fin m => #[.int .i64 (i.1 : Int), .string (R i.1)]) Kp (fun xs => xs = dn m m) (fun _ => True) m w := by
  intro l J Jx W hW hJ _ hY h0
  have hs1 : Boxed W Bs 26 (.slice a m C) := (hW.block _ hs.lt).trans hs
  have hc1 : ∀ i, i < m → W.cell? ⟨gb, off + i, none⟩ = some (.string (R i)) := fun i hi => (hW.cell (p := ⟨gb, off + i, none⟩) (World.block_lt_of_cell? w _ (hc i hi))).trans (hc i hi)
  have HY := Lib.hid hY
  have HKs := Lib.hid hKs
  have HKg := Lib.hid hKg
  have HC1 := Lib.hid hc1
  have HA := Lib.hid ha
  clear hY hJ hs hW hKs hKg hc hc1 ha
  refine callsIn_of_wp Tryz.func103 rfl trivial ?_
  simp only [Tryz.ntmps103, List.size_toArray, List.length_cons, List.length_nil, Nat.reduceAdd, Nat.reduceSub, Array.replicate_succ, Array.replicate_zero, List.push_toArray, List.append_toArray, List.nil_append, List.cons_append]
  have cs := hs1.cell
  gi_wp2
  clear cs
  gi_loopw [3] (fun u wr => ∃ i : Nat, i ≤ m ∧ u = .int .i64 ((i : Int) - 1) ∧ Boxed wr Bs 26 (.slice a m C) ∧ (∀ i, i < m → wr.cell? ⟨gb, off + i, none⟩ = some (.string (R i))) ∧ J (dn m (m - i)) wr) (fun u _ => (intOf u + 1).toNat)
  case atStart => exact ⟨m, Nat.le_refl _, rfl, hs1, HC1.out, by rw [Nat.sub_self]; exact h0⟩
  case round =>
    clear HC1 hs1
    obtain ⟨i, hi, rfl, hs2, hc2, hJ2⟩ := hrel
    have HS2 := Lib.hid hs2
    have HC2 := Lib.hid hc2
    have cs := hs2.cell
    clear hs2 hc2
    rcases Nat.eq_zero_or_pos i with hi0 | hi0
    · subst hi0
      gi_wp2
      go_end0
      exact ⟨⟨_, rfl⟩, .inl ⟨_, rfl, hJ2⟩⟩
    · obtain ⟨q, rfl⟩ : ∃ q, i = q + 1 := ⟨i - 1, by omega⟩
      rw [show (((q + 1 : Nat) : Int) - 1) = (q : Int) by omega]
      have hqm : q < m := by omega
      have c1 := HC2.out q hqm
      have haa := HA.out (by omega)
      subst haa
      have hqq : (q : Int) < (m : Int) := by omega
      have HD := Lib.hid (dn_succ m (m - (q + 1)) (by omega))
      rw [show m - (q + 1) + 1 = m - q from by omega] at HD
      have HE : Hid ((⟨m - 1 - (m - (q + 1)), by omega⟩ : Fin m) = ⟨q, hqm⟩) := by show _ = _; exact Fin.ext (by show m - 1 - (m - (q + 1)) = q; omega)
      rw [HE.out] at HD
      obtain ⟨fn, tmps, assign, body, hyi, hR⟩ := HY.out (dn m (m - (q + 1))) ⟨q, hqm⟩ wr hJ2 (by rw [dn_length m _ (by omega)]; omega)
      try dsimp only at hyi
      gi_wp2
      refine ⟨(fun h => by cases h), hR.mono ?_⟩
      rintro e W3 (⟨rfl, hJ3, hk3⟩ | ⟨rfl, hJx3⟩)
      · have hs3 : Boxed W3 Bs 26 (.slice (some ⟨gb, off, none⟩) m C) := (HKs.out _ _ hk3).trans HS2.out
        have hc3 : ∀ i, i < m → W3.cell? ⟨gb, off + i, none⟩ = some (.string (R i)) := fun i hi => by
          have := HC2.out i hi
          simp only [World.cell?] at this ⊢
          rw [HKg.out _ _ hk3]
          exact this
        have HS3 := Lib.hid hs3
        have HC3 := Lib.hid hc3
        clear hs3 hc3 cs c1
        gi_wp2
        go_roundw
        case rel => exact ⟨q, by omega, by go_num, HS3.out, HC3.out, by rw [HD.out]; exact hJ3⟩
        case measure => simp [intOf]
      · gi_wp2
        refine bodyPost_ret (results_none rfl _ _ _) rfl ?_
        exact ⟨⟨_, rfl⟩, .inr ⟨_, trivial, hJx3⟩⟩
end Go.Proofs.YthfenbdlolbikaaGreatDoor
end

section
/- Slices of strings and of numbers: given ones, and ones of the call's own. -/
namespace Go.Proofs.YthfenbdlolbikaaGreatDoor
open Go.RowKit Go.Shelf

theorem row_below {base B : Nat} {w w' : World} {e : TypeId} {size n : Nat} {v : Value} {xs : List Value} (h : w.ownsRow base e size v n xs) (hb : Below B w w') (hB : w.heap.size ≤ B) : w'.ownsRow base e size v n xs := by
  refine ⟨h.1, ?_⟩
  rcases h.2 with hn | ⟨g, cap, cur, rfl, hg, hgg, rest⟩
  · exact .inl hn
  · refine .inr ⟨g, cap, cur, rfl, hg, (hb.block g ?_).trans hgg, rest⟩
    have := (Array.getElem?_eq_some_iff.1 hgg).1
    omega
theorem row_mono {base base' : Nat} {w : World} {e : TypeId} {size n : Nat} {v : Value} {xs : List Value} (h : w.ownsRow base e size v n xs) (hB : base' ≤ base) : w.ownsRow base' e size v n xs := by
  refine ⟨h.1, ?_⟩
  rcases h.2 with hn | ⟨g, cap, cur, rfl, hg, rest⟩
  · exact .inl hn
  · exact .inr ⟨g, cap, cur, rfl, Nat.le_trans hB hg, rest⟩
/-- A row of another element type is not touched by what grows a row. -/
theorem row_kept {base b2 : Nat} {w w' : World} {e e2 : TypeId} {size n size2 n2 : Nat} {v rv : Value} {xs xs2 : List Value} (h : w.ownsRow base e size v n xs) (hr : w.ownsRow b2 e2 size2 rv n2 xs2) (he : e ≠ e2) (hg : w.grownBy w' rv.ownBlock) : w'.ownsRow base e size v n xs := by
  refine ⟨h.1, ?_⟩
  rcases h.2 with hn | ⟨g, cap, cur, rfl, hgb, hgg, rest⟩
  · exact .inl hn
  · refine .inr ⟨g, cap, cur, rfl, hgb, (hg.block g (Array.getElem?_eq_some_iff.1 hgg).1 fun eq => ?_).trans hgg, rest⟩
    rcases hr.2 with ⟨rfl, _⟩ | ⟨g', _, _, rfl, _, hgg', _⟩
    · cases eq
    · cases eq
      rw [hgg] at hgg'
      cases hgg'
      exact he rfl
/-- The first m elements of a row. -/
theorem row_take {base : Nat} {w : World} {e : TypeId} {n m : Nat} {g cap : Nat} {xs : List Value} (h : w.ownsRow base e 1 (.slice (some ⟨g, 0, none⟩) n cap) n xs) (hm : m ≤ n) : w.ownsRow base e 1 (.slice (some ⟨g, 0, none⟩) m cap) m (xs.take m) := by
  rcases h.2 with ⟨h0, _⟩ | ⟨g', cap', cur, heq, hgb, hgg, h1, h2, h3, h4⟩
  · cases h0
  · obtain ⟨rfl, rfl⟩ : g = g' ∧ cap = cap' := by
      simp only [Value.slice.injEq, Option.some.injEq, Addr.mk.injEq] at heq
      exact ⟨heq.1.1, heq.2.2⟩
    have hl := h.1
    refine ⟨by rw [List.length_take]; omega, .inr ⟨g, cap, cur, rfl, hgb, hgg, by omega, h2, h3, ?_⟩⟩
    rw [← h4, List.take_take]
    congr 1
    omega
/-- A value is a slice of these strings, in blocks before B. -/
def StrsAt (B : Nat) (w : World) (v : Value) (l : List Bytes) : Prop :=
  ∃ (a : Option Addr) (c : Nat), v = .slice a l.length c ∧ l.length ≤ c ∧ c ≤ maxLen ∧
    (0 < l.length → ∃ b off, a = some ⟨b, off, none⟩ ∧ b < B ∧ ∀ i, i < l.length → w.cell? ⟨b, off + i, none⟩ = some (.string (bs (l.getD i []))))
theorem StrsAt.below {B B' : Nat} {w w' : World} {v : Value} {l : List Bytes} (h : StrsAt B w v l) (hb : Below B' w w') (hB : B ≤ B') : StrsAt B w' v l := by
  obtain ⟨a, c, rfl, h1, h2, h3⟩ := h
  refine ⟨a, c, rfl, h1, h2, fun hp => ?_⟩
  obtain ⟨b, off, rfl, hlt, hc⟩ := h3 hp
  exact ⟨b, off, rfl, hlt, fun i hi => (hb.cell (p := ⟨b, off + i, none⟩) (Nat.lt_of_lt_of_le hlt hB)).trans (hc i hi)⟩
theorem StrsAt.mono {B B' : Nat} {w : World} {v : Value} {l : List Bytes} (h : StrsAt B w v l) (hB : B ≤ B') : StrsAt B' w v l := by
  obtain ⟨a, c, rfl, h1, h2, h3⟩ := h
  refine ⟨a, c, rfl, h1, h2, fun hp => ?_⟩
  obtain ⟨b, off, rfl, hlt, hc⟩ := h3 hp
  exact ⟨b, off, rfl, Nat.lt_of_lt_of_le hlt hB, hc⟩
theorem StrsAt.later {w w' : World} {v : Value} {l : List Bytes} (h : StrsAt w.heap.size w v l) {B : Nat} (hb : Below B w w') (hB : w.heap.size ≤ B) : StrsAt w'.heap.size w' v l := (h.below hb hB).mono hb.size
theorem StrsAt.nil (B : Nat) (w : World) : StrsAt B w (.slice none 0 0) [] := ⟨none, 0, rfl, Nat.le_refl _, Nat.zero_le _, fun h => by simp at h⟩
theorem StrsAt.shape {B : Nat} {w : World} {v : Value} {l : List Bytes} (h : StrsAt B w v l) : ∃ a c, v = .slice a l.length c ∧ l.length ≤ c ∧ c ≤ maxLen := by
  obtain ⟨a, c, h1, h2, h3, _⟩ := h
  exact ⟨a, c, h1, h2, h3⟩
theorem StrsAt.at {B : Nat} {w : World} {a : Option Addr} {n c : Nat} {l : List Bytes} (h : StrsAt B w (.slice a n c) l) (i : Nat) (hi : i < l.length) : ∃ b off, a = some ⟨b, off, none⟩ ∧ b < B ∧ w.cell? ⟨b, off + i, none⟩ = some (.string (bs (l.getD i []))) := by
  obtain ⟨a', c', he, _, _, h3⟩ := h
  obtain ⟨b, off, ha, hb, hc⟩ := h3 (by omega)
  cases he
  exact ⟨b, off, ha, hb, hc i hi⟩

theorem infoS1 : (Tryz.prog.info? 9).map (fun i => (i.zero, i.size, i.bytes)) = some (some (.string (⟨#[]⟩ : ByteArray)), 1, 16) := by kernel_rfl
/-- A slice of the call's own. -/
def OwnS (base : Nat) (w : World) (v : Value) (l : List Bytes) : Prop := w.ownsRow base 9 1 v l.length (l.map (fun b => Value.string (bs b)))
theorem OwnS.nil (base : Nat) (w : World) : OwnS base w (.slice none 0 0) [] := World.ownsRow_nil _ _ _ _
theorem OwnS.below {base B : Nat} {w w' : World} {v : Value} {l : List Bytes} (h : OwnS base w v l) (hb : Below B w w') (hB : w.heap.size ≤ B) : OwnS base w' v l := row_below h hb hB
theorem OwnS.mono {base base' : Nat} {w : World} {v : Value} {l : List Bytes} (h : OwnS base w v l) (hB : base' ≤ base) : OwnS base' w v l := row_mono h hB
theorem OwnS.take {base : Nat} {w : World} {g n cap : Nat} {l : List Bytes} (h : OwnS base w (.slice (some ⟨g, 0, none⟩) n cap) l) (m : Nat) (hm : m ≤ l.length) : OwnS base w (.slice (some ⟨g, 0, none⟩) m cap) (l.take m) := by
  have hn : n = l.length := by
    rcases h.2 with ⟨h0, _⟩ | ⟨_, _, _, he, _⟩
    · cases h0
    · cases he; rfl
  subst hn
  have := row_take (m := m) h hm
  unfold OwnS
  rw [List.length_take, show min m l.length = m from by omega, List.map_take]
  exact this
theorem OwnS.cell {base : Nat} {w : World} {g n cap : Nat} {l : List Bytes} (h : OwnS base w (.slice (some ⟨g, 0, none⟩) n cap) l) (i : Nat) (hi : i < l.length) : w.cell? ⟨g, i, none⟩ = some (.string (bs (l.getD i []))) := by
  have := World.ownsRow.cells h (g := g) rfl i (.string (bs (l.getD i []))) (by simp [hi])
  rw [Addr.add_lit, Nat.zero_add] at this
  exact this
theorem OwnS.shape {base : Nat} {w : World} {v : Value} {l : List Bytes} (h : OwnS base w v l) : (v = .slice none 0 0 ∧ l = []) ∨ ∃ g cap, v = .slice (some ⟨g, 0, none⟩) l.length cap ∧ base ≤ g ∧ g < w.heap.size ∧ l.length ≤ cap ∧ cap ≤ maxLen := by
  rcases h.2 with ⟨h0, h1⟩ | ⟨g, cap, cur, h1, h2, h3, h4, h5, _⟩
  · exact .inl ⟨h0, List.eq_nil_of_length_eq_zero h1⟩
  · exact .inr ⟨g, cap, h1, h2, (Array.getElem?_eq_some_iff.1 h3).1, h4, h5⟩
theorem OwnS.shape2 {base : Nat} {w : World} {v : Value} {l : List Bytes} (h : OwnS base w v l) : ∃ a cap, v = .slice a l.length cap ∧ l.length ≤ cap ∧ cap ≤ maxLen := by
  rcases h.shape with ⟨h0, rfl⟩ | ⟨g, cap, h1, _, _, h4, h5⟩
  · exact ⟨none, 0, h0, Nat.le_refl _, Nat.zero_le _⟩
  · exact ⟨_, cap, h1, h4, h5⟩
theorem OwnS.shape3 {base : Nat} {w : World} {v : Value} {l : List Bytes} (h : OwnS base w v l) (hl : 0 < l.length) : ∃ g cap, v = .slice (some ⟨g, 0, none⟩) l.length cap ∧ base ≤ g ∧ g < w.heap.size ∧ l.length ≤ cap ∧ cap ≤ maxLen := by
  rcases h.shape with ⟨_, rfl⟩ | h
  · simp at hl
  · exact h
/-- append of one element. -/
theorem append_S {ops : Array Oper} {rest : List Oper} {o : Oper} {a : Act} {Q : Exit → Act → World → Prop} {wr : World} (hgd : o.guard = none) (s x : Operand)
    (ho : o.op = .call { callee := .builtin .append, args := #[s, x], argTypes := #[26, 26] }) (base : Nat) (v : Value) (l : List Bytes) (z : Bytes)
    (hs : a.eval s = v) (hx : a.eval x = .slice (some ⟨wr.heap.size, 0, none⟩) 1 1) (hown : OwnS base wr v l) (hlen : l.length < 1099511627776) (hbase : base ≤ wr.heap.size) (w0 : World) (hb : Below base w0 wr)
    (h : ∀ v' w', OwnS base w' v' (l ++ [z]) → (wr.alloc (.cells #[.string (bs z)] 9)).grownBy w' v.ownBlock → Below base w0 w' → wpList Tryz.prog ops Q rest (a.put o.dst v') w') : wpList Tryz.prog ops Q (o :: rest) a (wr.alloc (.cells #[.string (bs z)] 9)) := by
  obtain ⟨i0, hi, hz0, hz1, hz2⟩ := info_parts infoS1
  refine wpList_append_own _ hgd s x 26 ho base 9 i0 (.string (⟨#[]⟩ : ByteArray)) 1 16 Tryz.underlying26 hi hz0 hz1 hz2 rfl (by decide) v l.length _ hs (World.ownsRow.alloc hown _) ⟨wr.heap.size, 0, none⟩ 1 1 [.string (bs z)] hx rfl ?_ (by simp [Value.oneCell']) (by unfold maxLen; omega) (by omega) (by simp; omega) ?_
  · intro j u hj
    match j, hj with
    | 0, hj => simp at hj; subst hj; simp [Addr.add]
  · intro v' w' hown' hg _
    refine h v' w' ?_ hg ((hb.alloc hbase _).grown hg (by simp; omega) fun k hk => (World.ownsRow.lt hown k hk).1)
    unfold OwnS
    rw [List.length_append, List.map_append]
    exact hown'
theorem infoN1 : (Tryz.prog.info? 3).map (fun i => (i.zero, i.size, i.bytes)) = some (some (.int .i64 0), 1, 8) := by kernel_rfl
/-- A slice of the call's own. -/
def OwnN (base : Nat) (w : World) (v : Value) (l : List Nat) : Prop := w.ownsRow base 3 1 v l.length (l.map (fun (n : Nat) => Value.int .i64 (n : Int)))
theorem OwnN.nil (base : Nat) (w : World) : OwnN base w (.slice none 0 0) [] := World.ownsRow_nil _ _ _ _
theorem OwnN.below {base B : Nat} {w w' : World} {v : Value} {l : List Nat} (h : OwnN base w v l) (hb : Below B w w') (hB : w.heap.size ≤ B) : OwnN base w' v l := row_below h hb hB
theorem OwnN.mono {base base' : Nat} {w : World} {v : Value} {l : List Nat} (h : OwnN base w v l) (hB : base' ≤ base) : OwnN base' w v l := row_mono h hB
theorem OwnN.take {base : Nat} {w : World} {g n cap : Nat} {l : List Nat} (h : OwnN base w (.slice (some ⟨g, 0, none⟩) n cap) l) (m : Nat) (hm : m ≤ l.length) : OwnN base w (.slice (some ⟨g, 0, none⟩) m cap) (l.take m) := by
  have hn : n = l.length := by
    rcases h.2 with ⟨h0, _⟩ | ⟨_, _, _, he, _⟩
    · cases h0
    · cases he; rfl
  subst hn
  have := row_take (m := m) h hm
  unfold OwnN
  rw [List.length_take, show min m l.length = m from by omega, List.map_take]
  exact this
theorem OwnN.cell {base : Nat} {w : World} {g n cap : Nat} {l : List Nat} (h : OwnN base w (.slice (some ⟨g, 0, none⟩) n cap) l) (i : Nat) (hi : i < l.length) : w.cell? ⟨g, i, none⟩ = some (.int .i64 ((l.getD i 0 : Nat) : Int)) := by
  have := World.ownsRow.cells h (g := g) rfl i (.int .i64 ((l.getD i 0 : Nat) : Int)) (by simp [hi])
  rw [Addr.add_lit, Nat.zero_add] at this
  exact this
theorem OwnN.shape {base : Nat} {w : World} {v : Value} {l : List Nat} (h : OwnN base w v l) : (v = .slice none 0 0 ∧ l = []) ∨ ∃ g cap, v = .slice (some ⟨g, 0, none⟩) l.length cap ∧ base ≤ g ∧ g < w.heap.size ∧ l.length ≤ cap ∧ cap ≤ maxLen := by
  rcases h.2 with ⟨h0, h1⟩ | ⟨g, cap, cur, h1, h2, h3, h4, h5, _⟩
  · exact .inl ⟨h0, List.eq_nil_of_length_eq_zero h1⟩
  · exact .inr ⟨g, cap, h1, h2, (Array.getElem?_eq_some_iff.1 h3).1, h4, h5⟩
theorem OwnN.shape2 {base : Nat} {w : World} {v : Value} {l : List Nat} (h : OwnN base w v l) : ∃ a cap, v = .slice a l.length cap ∧ l.length ≤ cap ∧ cap ≤ maxLen := by
  rcases h.shape with ⟨h0, rfl⟩ | ⟨g, cap, h1, _, _, h4, h5⟩
  · exact ⟨none, 0, h0, Nat.le_refl _, Nat.zero_le _⟩
  · exact ⟨_, cap, h1, h4, h5⟩
theorem OwnN.shape3 {base : Nat} {w : World} {v : Value} {l : List Nat} (h : OwnN base w v l) (hl : 0 < l.length) : ∃ g cap, v = .slice (some ⟨g, 0, none⟩) l.length cap ∧ base ≤ g ∧ g < w.heap.size ∧ l.length ≤ cap ∧ cap ≤ maxLen := by
  rcases h.shape with ⟨_, rfl⟩ | h
  · simp at hl
  · exact h
/-- append of one element. -/
theorem append_N {ops : Array Oper} {rest : List Oper} {o : Oper} {a : Act} {Q : Exit → Act → World → Prop} {wr : World} (hgd : o.guard = none) (s x : Operand)
    (ho : o.op = .call { callee := .builtin .append, args := #[s, x], argTypes := #[40, 40] }) (base : Nat) (v : Value) (l : List Nat) (z : Nat)
    (hs : a.eval s = v) (hx : a.eval x = .slice (some ⟨wr.heap.size, 0, none⟩) 1 1) (hown : OwnN base wr v l) (hlen : l.length < 1099511627776) (hbase : base ≤ wr.heap.size) (w0 : World) (hb : Below base w0 wr)
    (h : ∀ v' w', OwnN base w' v' (l ++ [z]) → (wr.alloc (.cells #[.int .i64 (z : Int)] 3)).grownBy w' v.ownBlock → Below base w0 w' → wpList Tryz.prog ops Q rest (a.put o.dst v') w') : wpList Tryz.prog ops Q (o :: rest) a (wr.alloc (.cells #[.int .i64 (z : Int)] 3)) := by
  obtain ⟨i0, hi, hz0, hz1, hz2⟩ := info_parts infoN1
  refine wpList_append_own _ hgd s x 40 ho base 3 i0 (.int .i64 0) 1 8 Tryz.underlying40 hi hz0 hz1 hz2 rfl (by decide) v l.length _ hs (World.ownsRow.alloc hown _) ⟨wr.heap.size, 0, none⟩ 1 1 [.int .i64 (z : Int)] hx rfl ?_ (by simp [Value.oneCell']) (by unfold maxLen; omega) (by omega) (by simp; omega) ?_
  · intro j u hj
    match j, hj with
    | 0, hj => simp at hj; subst hj; simp [Addr.add]
  · intro v' w' hown' hg _
    refine h v' w' ?_ hg ((hb.alloc hbase _).grown hg (by simp; omega) fun k hk => (World.ownsRow.lt hown k hk).1)
    unfold OwnN
    rw [List.length_append, List.map_append]
    exact hown'
theorem OwnS.strs {base : Nat} {w : World} {v : Value} {l : List Bytes} (h : OwnS base w v l) : StrsAt w.heap.size w v l := by
  rcases h.shape with ⟨rfl, rfl⟩ | ⟨g, cap, rfl, h2, h3, h4, h5⟩
  · exact StrsAt.nil _ _
  · exact ⟨some ⟨g, 0, none⟩, cap, rfl, h4, h5, fun _ => ⟨g, 0, rfl, h3, fun i hi => by rw [Nat.zero_add]; exact h.cell i hi⟩⟩
end Go.Proofs.YthfenbdlolbikaaGreatDoor
end
