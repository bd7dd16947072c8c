/- Cards, Rank, Kth, Count of an index; what its functions return without an index. -/
import Derived.Test.YtcgopilkajfghaaGreatDoorIDrop
set_option linter.unusedVariables false
set_option linter.unusedSimpArgs false
namespace Go.Proofs.YtcgopilkajfghaaGreatDoor
open Go.RowKit Go.Shelf
open Go.Maps (Keyed IsMap Tidy)

def rankE (l : List ICard) (id : Int) : Int × Int := match findC l id with
  | none => (0, 420)
  | some c => ((placeC l c : Nat), 0)
def kthE (l : List ICard) (k : Int) : Int × Int := if inC k 0 ((l.length : Int) - 1) then ((l.getD k.toNat cardZ).id, 0) else (0, 420)
def countE (l : List ICard) (y : Int) : Int := if inC y 0 2099 then (cntY l y : Int) else 0
set_option maxRecDepth 100000 in
set_option maxHeartbeats 1000000 in
theorem cards_any {S : Nat → Prop} {X : Nat} {l : List ICard} (w : World) (hN : IdxN S X l w) :
    Calls Tryz.prog 26 #[.pointer (some ⟨X, 0, none⟩)] w fun e w' => ∃ v, e = .returned v ∧ OwnK cardK w.heap.size w' v l ∧ Below w.heap.size w w' := by
  obtain ⟨m, ov, T, D, h⟩ := hN
  have c1 := h.c1
  have HC := Lib.hid (clone_any ov l w (h.order.rows cardOk) (by have := h.ok.few; omega))
  obtain ⟨oa, oc, hov, _, _⟩ := h.order.shape
  subst hov
  clear h
  generalize l.length = n at *
  go_enter Tryz.func26, Tryz.ntmps26
  go_wp2_with fail
  clear c1
  refine HC.out.mono ?_
  rintro e w' ⟨v, rfl, ho, hb⟩
  have HO := Lib.hid ho
  have HB := Lib.hid hb
  clear ho hb HC
  go_wp2
  go_ret
  exact ⟨_, rfl, HO.out, HB.out⟩
set_option maxRecDepth 100000 in
set_option maxHeartbeats 1000000 in
theorem count_any {S : Nat → Prop} {X : Nat} {l : List ICard} (y : Int) (w : World) (hN : IdxN S X l w) :
    Calls Tryz.prog 23 #[.pointer (some ⟨X, 0, none⟩), .int .i64 y] w fun e w' => e = .returned (.int .i64 (countE l y)) ∧ w' = w := by
  obtain ⟨m, ov, T, D, h⟩ := hN
  cases hy : inC y 0 2099
  · have HE : Hid (countE l y = 0) := by show _ = _; unfold countE; rw [hy]; rfl
    have H1 := Lib.hid (fun W => iisIn_eq hy W)
    clear hy h
    go_enter Tryz.func23, Tryz.ntmps23
    go_wp2_with fail
    refine (H1.out _).mono ?_
    rintro e w' ⟨rfl, rfl⟩
    go_wp2
    go_ret
    exact ⟨by rw [HE.out]; rfl, rfl⟩
  · have H1 := Lib.hid (fun W => iisIn_eq hy W)
    have hb : 0 ≤ y ∧ y ≤ 2099 := by unfold inC at hy; simp at hy; exact hy
    obtain ⟨k, rfl⟩ := Int.eq_ofNat_of_zero_le hb.1
    have HE : Hid (countE l (k : Int) = (cntY l (k : Int) : Int)) := by show _ = _; unfold countE; rw [hy]; rfl
    have HU : Hid (Calls Tryz.prog 52 #[.pointer (some ⟨X, 2, none⟩), .int .i64 (k : Int)] w fun e w' => e = .returned (.int .i64 (cntY l (k : Int) : Int)) ∧ w' = w) := by
      have h1 := sumUp_any X m ov T k w (by omega) (fun j hj => by have := tree_small h.tree h.ok.few hj; omega) h.box
      rwa [count_tree h.tree h.ok.pos k 2101 (by omega) (by omega)] at h1
    clear hy h
    go_enter Tryz.func23, Tryz.ntmps23
    go_wp2_with fail
    refine (H1.out _).mono ?_
    rintro e w' ⟨rfl, rfl⟩
    go_wp2_with fail
    refine HU.out.mono ?_
    rintro e w' ⟨rfl, rfl⟩
    go_wp2
    go_ret
    exact ⟨by rw [HE.out]; rfl, rfl⟩
set_option maxRecDepth 100000 in
set_option maxHeartbeats 1000000 in
theorem kth_any {S : Nat → Prop} {X : Nat} {l : List ICard} (k : Int) (w : World) (hN : IdxN S X l w) :
    Calls Tryz.prog 21 #[.pointer (some ⟨X, 0, none⟩), .int .i64 k] w fun e w' => e = .returned (.tuple #[.int .i64 (kthE l k).1, .int .i64 (kthE l k).2]) ∧ w' = w := by
  obtain ⟨m, ov, T, D, h⟩ := hN
  have c1 := h.c1
  have HR := Lib.hid (h.order.rows cardOk)
  have hfew := h.ok.few
  obtain ⟨oa, oc, hov, _, _⟩ := h.order.shape
  subst hov
  clear h
  have w1 : IntKind.i64.wrap ((l.length : Int) - 1) = (l.length : Int) - 1 := IntWalk.i64_in _ (by omega)
  cases hy : inC k 0 ((l.length : Int) - 1)
  · have HE : Hid (kthE l k = (0, 420)) := by show _ = _; unfold kthE; rw [hy]; rfl
    have H1 := Lib.hid (fun W => iisIn_eq hy W)
    clear hy
    generalize l.length = n at *
    go_enter Tryz.func21, Tryz.ntmps21
    go_wp2_with fail
    refine (H1.out _).mono ?_
    rintro e w' ⟨rfl, rfl⟩
    go_wp2
    go_ret2
    exact ⟨by rw [HE.out]; rfl, rfl⟩
  · have H1 := Lib.hid (fun W => iisIn_eq hy W)
    have hb : 0 ≤ k ∧ k ≤ (l.length : Int) - 1 := by unfold inC at hy; simp at hy; exact ⟨hy.1, by omega⟩
    obtain ⟨j, rfl⟩ := Int.eq_ofNat_of_zero_le hb.1
    have hjl : j < l.length := by omega
    obtain ⟨c, hc⟩ : ∃ c, c = l.getD j cardZ := ⟨_, rfl⟩
    have HE : Hid (kthE l (j : Int) = (c.id, 0)) := by show _ = _; unfold kthE; rw [hy, hc]; rfl
    have hget : l[j]? = some c := by rw [hc, List.getD_eq_getElem?_getD, List.getElem?_eq_getElem hjl]; rfl
    obtain ⟨gb, off, hae, hgb, e0, e1, e2, e3, e4⟩ := cards_at HR.out j c hget
    subst hae
    have j1 : (j : Int) < (l.length : Int) := by omega
    have j0 : 0 ≤ (j : Int) := by omega
    clear hy hget hc e1 e2 e3 e4
    generalize l.length = n at *
    go_enter Tryz.func21, Tryz.ntmps21
    go_wp2_with fail
    refine (H1.out _).mono ?_
    rintro e w' ⟨rfl, rfl⟩
    go_wp2
    go_ret2
    exact ⟨by rw [HE.out]; rfl, rfl⟩
set_option maxRecDepth 100000 in
set_option maxHeartbeats 1000000 in
theorem rank_any {S : Nat → Prop} {X : Nat} {l : List ICard} (id : Int) (w : World) (hN : IdxN S X l w) (hi : inI id) :
    Calls Tryz.prog 19 #[.pointer (some ⟨X, 0, none⟩), .int .i64 id] w fun e w' => e = .returned (.tuple #[.int .i64 (rankE l id).1, .int .i64 (rankE l id).2]) ∧ Below w.heap.size w w' := by
  obtain ⟨m, ov, T, D, h⟩ := hN
  have HIw := Lib.hid h
  have c0 := h.c0
  have hlk := h.look hi
  cases hf : findC l id with
  | none =>
    have HP : Hid (rankE l id = (0, 420)) := by show _ = _; unfold rankE; rw [hf]
    rw [hf] at hlk
    have hlk : (Instr.lookup 74 (.map (some m)) (.int .i64 id) true).run Tryz.prog w = .ok (.tuple #[cardV cardZ, .bool false]) w := hlk
    have HB : Hid (Below w.heap.size w (w.alloc (.cells (cardR cardZ) 35))) := (Below.refl _ _).alloc (Nat.le_refl _) _
    clear hf h
    go_enter Tryz.func19, Tryz.ntmps19
    go_wp2
    go_ret2
    rw [HP.out]
    exact ⟨rfl, HB.out⟩
  | some c =>
    have HP : Hid (rankE l id = (((placeC l c : Nat) : Int), 0)) := by show _ = _; unfold rankE; rw [hf]
    obtain ⟨hmem, hid⟩ := findC_some hf
    subst hid
    rw [hf] at hlk
    have hlk : (Instr.lookup 74 (.map (some m)) (.int .i64 c.id) true).run Tryz.prog w = .ok (.tuple #[cardV c, .bool true]) w := hlk
    obtain ⟨V, hV⟩ : ∃ V, V = w.alloc (.cells (cardR c) 35) := ⟨_, rfl⟩
    have HB : Hid (Below w.heap.size w V) := by show Below _ _ _; rw [hV]; exact (Below.refl _ _).alloc (Nat.le_refl _) _
    have HIV : Hid (IdxAt S X l m ov T D V) := HIw.out.turn (R := fun _ => False) (Turn.of_below HB.out) (fun _ _ h => h)
    have HCV : Hid (CardN w.heap.size c V) := by show BoxN _ _ _ _; rw [hV]; exact box_new w _ _
    have HV := Lib.hid hV
    obtain ⟨pl, hpl⟩ : ∃ p, p = placeC l c := ⟨_, rfl⟩
    rw [← hpl] at HP
    have HPl := Lib.hid hpl
    clear hf h hmem hV hi hpl HIw
    go_enter Tryz.func19, Tryz.ntmps19
    go_wp2
    rw [← HV.out]
    clear hlk c0
    have HQ : Hid (∀ W, V.grownBy W none → W.cell? ⟨w.heap.size, 0, none⟩ = some (.int .i64 c.id) ∧ W.cell? ⟨w.heap.size, 1, none⟩ = some (.int .i64 c.unit) ∧ W.cell? ⟨w.heap.size, 2, none⟩ = some (.int .i64 c.kind) ∧ W.cell? ⟨w.heap.size, 3, none⟩ = some (.int .i64 c.beg) ∧ W.cell? ⟨w.heap.size, 4, none⟩ = some (.int .i64 c.fin)) := fun W hW =>
      CardN.cells (BoxN.grown HCV.out hW (by simp))
    refine wp_region_calm ⟨[4], fun _ v _ => v = .int .i64 pl, fun _ => [], 99, none, 1000⟩ (by kernel_rfl) (by kernel_rfl) (by kernel_rfl) (fun g h => by cases h) (fun k hk v W W' r h hg hc => h) ?_
    iterate 4 (refine calm_quiet (v := ?_) (by rfl) (by rfl) (fun W hW hD => ?_) ?_; rotate_left; (· (obtain ⟨z0, z1, z2, z3, z4⟩ := HQ.out W hW; clear hD hW; go_simp; try with_reducible rfl)); simp only [Act.put, List.setIfInBounds_toArray, List.set_cons_zero, List.set_cons_succ, Nat.reduceAdd, Nat.zero_add])
    refine calm_makes (by rfl) (by rfl) (fun W hW hD Kc hK => ?_) (fun v32 => ?_)
    · have hWn : V.grownBy W none := hW
      have hI := HIV.out.grown hWn
      refine wp_of_call (f := 45) ?_ ((place_any c W hI.box hI.order hI.ok).mono ?_)
      · clear hD hW hK hWn hI
        go_simp
      · rintro e w7 ⟨rfl, hb7⟩
        exact ⟨_, rfl, hK _ _ (made_plain (by rw [← HPl.out]; rfl) hb7 rfl)⟩
    simp only [Act.put, List.setIfInBounds_toArray, List.set_cons_zero, List.set_cons_succ, Nat.reduceAdd, Nat.zero_add]
    refine calm_quiet (v := v32) (by rfl) (by rfl) (fun W hW hD => ?_) ?_
    · clear hD hW
      go_simp
    simp only [Act.put, List.setIfInBounds_toArray, List.set_cons_zero, List.set_cons_succ, Nat.reduceAdd, Nat.zero_add]
    iterate 1 (refine calm_quiet (v := ?_) (by rfl) (by rfl) (fun W hW hD => ?_) ?_; rotate_left; (· (skip; clear hD hW; go_simp; try with_reducible rfl)); simp only [Act.put, List.setIfInBounds_toArray, List.set_cons_zero, List.set_cons_succ, Nat.reduceAdd, Nat.zero_add])
    refine calm_nil fun W hW hF => ?_
    obtain rfl : v32 = .int .i64 pl := hF 4 (by kernel_rfl) (by kernel_rfl)
    have HBW := Lib.hid (HB.out.trans ((grown_below hW).mono HB.out.size))
    clear hF HQ hW
    go_wp2
    go_ret2
    rw [HP.out]
    exact ⟨rfl, HBW.out⟩
set_option maxRecDepth 100000 in
theorem put_nil (c : ICard) (w : World) : Calls Tryz.prog 10 #[.pointer none, cardV c] w fun e w' => e = .returned (.int .i64 1) ∧ Below w.heap.size w w' := by
  have HB : Hid (Below w.heap.size w w) := Below.refl _ _
  have HB2 : Hid (∀ o, Below w.heap.size w (w.alloc o)) := fun o => (Below.refl _ _).alloc (Nat.le_refl _) o
  go_enter Tryz.func10, Tryz.ntmps10
  go_wp2
  go_ret
  exact ⟨rfl, by first | exact HB.out | exact HB2.out _⟩
set_option maxRecDepth 100000 in
theorem drop_nil (k : Int) (w : World) : Calls Tryz.prog 12 #[.pointer none, .int .i64 k] w fun e w' => e = .returned (.int .i64 1) ∧ Below w.heap.size w w' := by
  have HB : Hid (Below w.heap.size w w) := Below.refl _ _
  have HB2 : Hid (∀ o, Below w.heap.size w (w.alloc o)) := fun o => (Below.refl _ _).alloc (Nat.le_refl _) o
  go_enter Tryz.func12, Tryz.ntmps12
  go_wp2
  go_ret
  exact ⟨rfl, by first | exact HB.out | exact HB2.out _⟩
set_option maxRecDepth 100000 in
theorem cards_nil (w : World) : Calls Tryz.prog 26 #[.pointer none] w fun e w' => e = .returned (.slice none 0 0) ∧ Below w.heap.size w w' := by
  have HB : Hid (Below w.heap.size w w) := Below.refl _ _
  have HB2 : Hid (∀ o, Below w.heap.size w (w.alloc o)) := fun o => (Below.refl _ _).alloc (Nat.le_refl _) o
  go_enter Tryz.func26, Tryz.ntmps26
  go_wp2
  go_ret
  exact ⟨rfl, by first | exact HB.out | exact HB2.out _⟩
set_option maxRecDepth 100000 in
theorem count_nil (k : Int) (w : World) : Calls Tryz.prog 23 #[.pointer none, .int .i64 k] w fun e w' => e = .returned (.int .i64 0) ∧ Below w.heap.size w w' := by
  have HB : Hid (Below w.heap.size w w) := Below.refl _ _
  have HB2 : Hid (∀ o, Below w.heap.size w (w.alloc o)) := fun o => (Below.refl _ _).alloc (Nat.le_refl _) o
  go_enter Tryz.func23, Tryz.ntmps23
  go_wp2
  go_ret
  exact ⟨rfl, by first | exact HB.out | exact HB2.out _⟩
set_option maxRecDepth 100000 in
theorem kth_nil (k : Int) (w : World) : Calls Tryz.prog 21 #[.pointer none, .int .i64 k] w fun e w' => e = .returned (.tuple #[.int .i64 0, .int .i64 1]) ∧ Below w.heap.size w w' := by
  have HB : Hid (Below w.heap.size w w) := Below.refl _ _
  have HB2 : Hid (∀ o, Below w.heap.size w (w.alloc o)) := fun o => (Below.refl _ _).alloc (Nat.le_refl _) o
  go_enter Tryz.func21, Tryz.ntmps21
  go_wp2
  go_ret2
  exact ⟨rfl, by first | exact HB.out | exact HB2.out _⟩
set_option maxRecDepth 100000 in
theorem rank_nil (k : Int) (w : World) : Calls Tryz.prog 19 #[.pointer none, .int .i64 k] w fun e w' => e = .returned (.tuple #[.int .i64 0, .int .i64 1]) ∧ Below w.heap.size w w' := by
  have HB : Hid (Below w.heap.size w w) := Below.refl _ _
  have HB2 : Hid (∀ o, Below w.heap.size w (w.alloc o)) := fun o => (Below.refl _ _).alloc (Nat.le_refl _) o
  go_enter Tryz.func19, Tryz.ntmps19
  go_wp2
  go_ret2
  exact ⟨rfl, by first | exact HB.out | exact HB2.out _⟩
end Go.Proofs.YtcgopilkajfghaaGreatDoor
