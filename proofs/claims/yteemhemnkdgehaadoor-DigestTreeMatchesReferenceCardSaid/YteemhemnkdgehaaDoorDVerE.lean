/- digest.VerifyExtension. -/
import Derived.Test.YteemhemnkdgehaaDoorDVer
namespace Go.Proofs.YteemhemnkdgehaaDoor
open Go.RowKit Go.Shelf
attribute [local go_sem] Oper.semAt_some

def join1 (x : Bytes × Bool) (p : Bytes) : Bytes := if x.2 then joinB x p else p
def up1 (way : List (Bytes × Bool)) (v : Bytes) : Bytes := way.foldr join1 v
theorem up1_snoc (way : List (Bytes × Bool)) (x : Bytes × Bool) (v : Bytes) : up1 (way ++ [x]) v = up1 way (join1 x v) := by unfold up1; rw [List.foldr_append]; rfl
theorem up1_back (way : List (Bytes × Bool)) (o : Bytes) (m : Nat) (hm : way.length = m) : ∀ k, k ≤ m → (dn m k).foldl (fun o i => join1 (way.getD i.1 ([], false)) o) o = up1 (way.drop (m - k)) o
  | 0, _ => by rw [Nat.sub_zero, List.drop_eq_nil_of_le (by omega)]; rfl
  | k + 1, hk => by
    have hi : m - (k + 1) < way.length := by omega
    rw [dn_succ m k (by omega), List.foldl_append, up1_back way o m hm k (by omega), List.drop_eq_getElem_cons hi, show m - (k + 1) + 1 = m - k from by omega]
    show join1 (way.getD (m - 1 - k) ([], false)) _ = join1 way[m - (k + 1)] (up1 (way.drop (m - k)) o)
    rw [show m - 1 - k = m - (k + 1) from by omega, List.getD_eq_getElem?_getD, List.getElem?_eq_getElem hi]
    rfl
theorem join1_length (x : Bytes × Bool) (p : Bytes) (hp : p.length = 32) : (join1 x p).length = 32 := by
  unfold join1
  split
  · exact joinB_length _ _
  · exact hp
/-- What was there is kept, but for two blocks. -/
def Two (B1 B2 : Nat) (w w' : World) : Prop := w'.os = w.os ∧ w'.tape = w.tape ∧ w'.output = w.output ∧ w.heap.size ≤ w'.heap.size ∧ ∀ k, k < w.heap.size → k ≠ B1 → k ≠ B2 → w'.heap[k]? = w.heap[k]?
theorem Two.refl (B1 B2 : Nat) (w : World) : Two B1 B2 w w := ⟨rfl, rfl, rfl, Nat.le_refl _, fun _ _ _ _ => rfl⟩
theorem Two.trans {B1 B2 : Nat} {a b c : World} (h : Two B1 B2 a b) (g : Two B1 B2 b c) : Two B1 B2 a c :=
  ⟨g.1.trans h.1, g.2.1.trans h.2.1, g.2.2.1.trans h.2.2.1, Nat.le_trans h.2.2.2.1 g.2.2.2.1, fun k hk h1 h2 => (g.2.2.2.2 k (Nat.lt_of_lt_of_le hk h.2.2.2.1) h1 h2).trans (h.2.2.2.2 k hk h1 h2)⟩
theorem Two.size {B1 B2 : Nat} {a b : World} (h : Two B1 B2 a b) : a.heap.size ≤ b.heap.size := h.2.2.2.1
theorem Two.of1 {B1 B2 : Nat} {a b : World} (h : a.grownBy b (some B1)) : Two B1 B2 a b := ⟨h.os, h.tape, h.output, h.size, fun k hk h1 _ => h.block k hk (fun e => h1 (by cases e; rfl))⟩
theorem Two.of2 {B1 B2 : Nat} {a b : World} (h : a.grownBy b (some B2)) : Two B1 B2 a b := ⟨h.os, h.tape, h.output, h.size, fun k hk _ h2 => h.block k hk (fun e => h2 (by cases e; rfl))⟩
theorem Two.of0 {B1 B2 : Nat} {a b : World} (h : a.grownBy b none) : Two B1 B2 a b := ⟨h.os, h.tape, h.output, h.size, fun k hk _ _ => h.block k hk (fun e => by cases e)⟩
theorem Two.below {B1 B2 B : Nat} {a b : World} (h : Two B1 B2 a b) (h1 : B ≤ B1) (h2 : B ≤ B2) (h3 : B ≤ a.heap.size) : Below B a b := ⟨h.1, h.2.1, h.2.2.1, h.2.2.2.1, fun k hk => h.2.2.2.2 k (by omega) (by omega) (by omega)⟩
theorem Two.keeps {B1 B2 B : Nat} {a b : World} (h : Two B1 B2 a b) (h1 : B1 < B) (h2 : B2 < B) : KeepsFrom B a b := ⟨h.size, fun k _ hk hb _ => (h.2.2.2.2 k (Array.getElem?_eq_some_iff.1 hb).1 (by omega) (by omega)).trans hb⟩
/-- All blocks before n₀ are kept, but for two. -/
def KpTwo (n₀ B1 B2 : Nat) (W W' : World) : Prop := ∀ k, k < n₀ → k ≠ B1 → k ≠ B2 → W'.heap[k]? = W.heap[k]?
theorem kpTwo_t {n₀ B1 B2 : Nat} {A B C : World} (x : KpTwo n₀ B1 B2 A B) (y : KpTwo n₀ B1 B2 B C) : KpTwo n₀ B1 B2 A C := fun k hk h1 h2 => (y k hk h1 h2).trans (x k hk h1 h2)
theorem kpTwo_b {n₀ B1 B2 : Nat} {w : World} (hn : n₀ ≤ w.heap.size) (W : World) (l : Nat) (o o' : Obj) (hl : w.heap.size ≤ l) (_ : W.heap[l]? = some o) (_ : o.isCells = false) (_ : o.isWalk = false) : KpTwo n₀ B1 B2 W (W.putObj l o') :=
  fun k hk _ _ => World.putObj_heap_other (by omega)
theorem kpTwo_two {n₀ B1 B2 : Nat} {W W' : World} (h : Two B1 B2 W W') (hn : n₀ ≤ W.heap.size) : KpTwo n₀ B1 B2 W W' := fun k hk h1 h2 => h.2.2.2.2 k (by omega) h1 h2
/-- Between two rounds of the last loop. -/
def UpJ (way : List (Bytes × Bool)) (o : Bytes) (m B1 B2 : Nat) (W0 : World) (pre : List (Fin m)) (W : World) : Prop :=
  Boxed W B1 9 (.string (bs (pre.foldl (fun o i => join1 (way.getD i.1 ([], false)) o) o))) ∧ Boxed W B2 9 (.string (bs (pre.foldl (fun o i => joinB (way.getD i.1 ([], false)) o) o))) ∧ Two B1 B2 W0 W
theorem upJ_own (way : List (Bytes × Bool)) (o : Bytes) (m B1 B2 B : Nat) (W0 : World) (hB : W0.heap.size ≤ B) (h1 : B1 < B) (h2 : B2 < B) : OwnFrom B (UpJ way o m B1 B2 W0) := by
  intro s W W' row h hg hr
  refine ⟨(hg.block B1 h.1.lt (fun e => by have := (hr B1 e.symm).1; omega)).trans h.1, (hg.block B2 h.2.1.lt (fun e => by have := (hr B2 e.symm).1; omega)).trans h.2.1, ?_⟩
  exact ⟨hg.os.trans h.2.2.1, hg.tape.trans h.2.2.2.1, hg.output.trans h.2.2.2.2.1, Nat.le_trans h.2.2.2.2.2.1 hg.size, fun k hk k1 k2 => (hg.block k (Nat.lt_of_lt_of_le hk h.2.2.2.2.2.1) (fun e => by have := (hr k e.symm).1; omega)).trans (h.2.2.2.2.2.2 k hk k1 k2)⟩
/-- At the head of the loop over a proof. -/
def ExtI (old : Bytes) (proof : List Bytes) (m n : Nat) (base m' n' : Nat) (v4 v11 : Value) (whole : Bool) (wr : World) : Prop :=
  ∃ (rest : List Bytes) (way : List (Bytes × Bool)), StrsAt base wr v4 rest ∧ OwnD base wr v11 way ∧ (∀ x ∈ rest, x.length = 32) ∧ (∀ x ∈ way, x.1.length = 32) ∧ rest.length + way.length = proof.length ∧
    bothR old proof.reverse m n true = (bothR old rest.reverse m' n' whole).map (fun p => (up1 way p.1, upB way p.2))
/-- What the statement that takes the first value over reads and writes. -/
def ExtR (b4 o4 B1 B2 : Nat) (x : Bytes) (W0 W : World) : Prop := (∃ v1, Boxed W B1 9 v1) ∧ (∃ v2, Boxed W B2 9 v2) ∧ W.cell? ⟨b4, o4, none⟩ = some (.string (bs x)) ∧ Two B1 B2 W0 W
theorem ExtR.drew {b4 o4 B1 B2 : Nat} {x : Bytes} {W0 W : World} (h : ExtR b4 o4 B1 B2 x W0 W) : ExtR b4 o4 B1 B2 x W0 W.drew := h
theorem ExtR.drewN {b4 o4 B1 B2 : Nat} {x : Bytes} {W0 W : World} (h : ExtR b4 o4 B1 B2 x W0 W) (n : Nat) : ExtR b4 o4 B1 B2 x W0 (W.drewN n) := h
theorem ExtR.set1 {b4 o4 B1 B2 : Nat} {x : Bytes} {W0 W : World} (h : ExtR b4 o4 B1 B2 x W0 W) (h1 : B1 ≠ B2) (h2 : b4 ≠ B1) (v : Value) : ExtR b4 o4 B1 B2 x W0 (W.setCell ⟨B1, 0, none⟩ v) := by
  obtain ⟨⟨v1, hb1⟩, ⟨v2, hb2⟩, hc, ht⟩ := h
  exact ⟨⟨v, hb1.set v⟩, ⟨v2, hb2.other (fun e => h1 e.symm) v⟩, by rw [World.cell?_setCell_far _ _ _ _ (fun e => h2 e.symm)]; exact hc, ht.trans (Two.of1 (grownBy_set (World.grownBy.refl _ _)))⟩
theorem ExtR.set2 {b4 o4 B1 B2 : Nat} {x : Bytes} {W0 W : World} (h : ExtR b4 o4 B1 B2 x W0 W) (h1 : B1 ≠ B2) (h2 : b4 ≠ B2) (v : Value) : ExtR b4 o4 B1 B2 x W0 (W.setCell ⟨B2, 0, none⟩ v) := by
  obtain ⟨⟨v1, hb1⟩, ⟨v2, hb2⟩, hc, ht⟩ := h
  exact ⟨⟨v1, hb1.other h1 v⟩, ⟨v, hb2.set v⟩, by rw [World.cell?_setCell_far _ _ _ _ (fun e => h2 e.symm)]; exact hc, ht.trans (Two.of2 (grownBy_set (World.grownBy.refl _ _)))⟩
theorem ExtR.s {b4 o4 B1 B2 : Nat} {x : Bytes} {W0 W : World} (h : ExtR b4 o4 B1 B2 x W0 W) : W.cell? ⟨b4, o4, none⟩ = some (.string (bs x)) ∧ W.cell? ⟨B1, 0, none⟩ = some (oldAt W ⟨B1, 0, none⟩) ∧ W.frozen? ⟨B1, 0, none⟩ = false ∧ W.cell? ⟨B2, 0, none⟩ = some (oldAt W ⟨B2, 0, none⟩) ∧ W.frozen? ⟨B2, 0, none⟩ = false := by
  obtain ⟨⟨v1, hb1⟩, ⟨v2, hb2⟩, hc, ht⟩ := h
  exact ⟨hc, by unfold oldAt; rw [hb1.cell]; rfl, hb1.frozen, by unfold oldAt; rw [hb2.cell]; rfl, hb2.frozen⟩
theorem gen_at {P : World → Prop} {W : World} (R : World → Prop) (h : R W) (k : ∀ W', R W' → P W') : P W := k W h
theorem fold1_length (way : List (Bytes × Bool)) {m : Nat} : ∀ (pre : List (Fin m)) (o : Bytes), o.length = 32 → (pre.foldl (fun o i => join1 (way.getD i.1 ([], false)) o) o).length = 32
  | [], _, h => h
  | _ :: t, _, h => fold1_length way t _ (join1_length _ _ h)
theorem foldJ_length (way : List (Bytes × Bool)) {m : Nat} : ∀ (pre : List (Fin m)) (o : Bytes), o.length = 32 → (pre.foldl (fun o i => joinB (way.getD i.1 ([], false)) o) o).length = 32
  | [], _, h => h
  | _ :: t, _, _ => foldJ_length way t _ (joinB_length _ _)
theorem some_pair (a b c d : Bytes) : ((some (a, b) : Option (Bytes × Bytes)) == some (c, d)) = ((a == c) && (b == d)) := rfl
set_option maxRecDepth 100000 in
set_option maxHeartbeats 4000000 in
theorem verExt_any (old : Bytes) (m : Int) (root : Bytes) (n : Int) (v : Value) (proof : List Bytes) (w : World) (hm : -9223372036854775808 ≤ m ∧ m ≤ 9223372036854775807) (hn : -9223372036854775808 ≤ n ∧ n ≤ 9223372036854775807) (hL : StrsAt w.heap.size w v proof) (hlen : proof.length ≤ 1000000) (hT : Rounds w) :
    Calls Tryd.prog 23 #[.string (bs old), .int .i64 m, .string (bs root), .int .i64 n, v] w fun e w' => e = .returned (.bool (verExtB old m root n proof)) ∧ Below w.heap.size w w' := by
  obtain ⟨av, cv, rfl, hcv1, hcv2⟩ := hL.shape
  unfold maxLen at hcv2
  have HV : Hid (verExtB old m root n proof = (decide (0 ≤ m) && decide (m ≤ n) && digB proof && decide (old.length = 32) && decide (root.length = 32) &&
    (if m = 0 then proof.isEmpty && (old == sha []) else if m = n then proof.isEmpty && (old == root) else bothR old proof.reverse m.toNat n.toNat true == some (old, root)))) := rfl
  have HAll := Lib.hid (all_any _ proof w hL)
  have HDo := Lib.hid (isDigest_any (bs old) w)
  have HDr := Lib.hid (isDigest_any (bs root) w)
  rw [bs_size] at HDo HDr
  have HSm : Hid (Calls Tryd.prog 30 #[.string ⟨#[]⟩] w fun e w' => e = .returned (.string (bs (sha []))) ∧ Below w.heap.size w w') := sum_any ⟨#[]⟩ w (by decide) hT
  have HL := Lib.hid hL
  have HT := Lib.hid hT
  have hpe : proof.isEmpty = decide (proof.length = 0) := by cases proof <;> simp
  have HPe := Lib.hid hpe
  clear hL hT hpe
  by_cases h0 : m < 0
  · have d0 : decide (m < 0) = true := by simp [h0]
    have HF : Hid (verExtB old m root n proof = false) := by show _ = _; rw [HV.out, show decide (0 ≤ m) = false from by simp; omega]; rfl
    go_enter Tryd.func23, Tryd.ntmps23
    go_wp2
    go_ret
    exact ⟨by rw [HF.out]; rfl, Below.refl _ _⟩
  by_cases h1 : n < m
  · have d0 : decide (m < 0) = false := by simp; omega
    have d1 : decide (n < m) = true := by simp [h1]
    have HF : Hid (verExtB old m root n proof = false) := by show _ = _; rw [HV.out, show decide (m ≤ n) = false from by simp; omega]; simp
    go_enter Tryd.func23, Tryd.ntmps23
    go_wp2
    go_ret
    exact ⟨by rw [HF.out]; rfl, Below.refl _ _⟩
  have d0 : decide (m < 0) = false := by simp; omega
  have d1 : decide (n < m) = false := by simp; omega
  cases hd : digB proof
  · rw [hd] at HAll
    have HF : Hid (verExtB old m root n proof = false) := by show _ = _; rw [HV.out, hd]; simp
    clear hd
    go_enter Tryd.func23, Tryd.ntmps23
    go_wp2_with (go_at_call 45; refine HAll.out.mono ?_; rintro e w' ⟨rfl, rfl⟩)
    go_ret
    exact ⟨by rw [HF.out]; rfl, Below.refl _ _⟩
  have H32 : Hid (∀ x ∈ proof, x.length = 32) := fun x hx => by
    unfold digB at hd
    exact of_decide_eq_true (List.all_eq_true.1 hd x hx)
  rw [hd] at HAll
  by_cases ho : ¬ old.length = 32
  · rw [show decide (old.length = 32) = false from by simp [ho]] at HDo
    have HF : Hid (verExtB old m root n proof = false) := by show _ = _; rw [HV.out, show decide (old.length = 32) = false from by simp [ho]]; simp
    clear hd ho
    go_enter Tryd.func23, Tryd.ntmps23
    go_wp2_with (first | (go_at_call 45; refine HAll.out.mono ?_; rintro e w' ⟨rfl, rfl⟩) | (go_at_call 51; refine HDo.out.mono ?_; rintro e w' ⟨rfl, rfl⟩))
    go_ret
    exact ⟨by rw [HF.out]; rfl, Below.refl _ _⟩
  have ho := Decidable.not_not.1 ho
  rw [show decide (old.length = 32) = true from by simp [ho]] at HDo
  by_cases hr : ¬ root.length = 32
  · rw [show decide (root.length = 32) = false from by simp [hr]] at HDr
    have HF : Hid (verExtB old m root n proof = false) := by show _ = _; rw [HV.out, show decide (root.length = 32) = false from by simp [hr]]; simp
    clear hd ho hr
    go_enter Tryd.func23, Tryd.ntmps23
    go_wp2_with (first | (go_at_call 45; refine HAll.out.mono ?_; rintro e w' ⟨rfl, rfl⟩) | (go_at_call 51; (first | refine HDo.out.mono ?_ | refine HDr.out.mono ?_); rintro e w' ⟨rfl, rfl⟩))
    go_ret
    exact ⟨by rw [HF.out]; rfl, Below.refl _ _⟩
  have hr := Decidable.not_not.1 hr
  rw [show decide (root.length = 32) = true from by simp [hr]] at HDr
  obtain ⟨j, rfl⟩ := Int.eq_ofNat_of_zero_le (show 0 ≤ m by omega)
  obtain ⟨k, rfl⟩ := Int.eq_ofNat_of_zero_le (show 0 ≤ n by omega)
  have HF : Hid (verExtB old j root k proof = (if j = 0 then proof.isEmpty && (old == sha []) else if j = k then proof.isEmpty && (old == root) else bothR old proof.reverse j k true == some (old, root))) := by
    show _ = _
    rw [HV.out, hd, show decide ((0 : Int) ≤ (j : Int)) = true from by simp, show decide ((j : Int) ≤ (k : Int)) = true from by simp; omega, show decide (old.length = 32) = true from by simp [ho], show decide (root.length = 32) = true from by simp [hr]]
    simp only [show ((j : Int) = (k : Int)) = (j = k) from propext Int.ofNat_inj]
    simp
  have hjk : j ≤ k := by omega
  have d1' : decide (k < j) = false := by simp; omega
  have HO32 := Lib.hid ho
  have HR32r := Lib.hid hr
  clear hd HV h1 h0 d1 ho hr
  generalize hnp : proof.length = np at *
  have Hnp := Lib.hid hnp
  clear hnp
  generalize hEE : sha [] = E at *
  clear hEE
  by_cases hj0 : j = 0
  · subst hj0
    have HF0 : Hid (verExtB old (0 : Nat) root k proof = (decide (np = 0) && (old == E))) := by show _ = _; rw [HF.out, if_pos rfl, HPe.out, ]
    have HBe := Lib.hid (show ((bs old).toList == (bs E).toList) = (old == E) by rw [bs_toList, bs_toList])
    clear HF HPe hjk d1'
    rw [show (((0 : Nat) : Int)) = (0 : Int) from rfl] at HF0 ⊢
    have d1 : decide ((k : Int) < 0) = false := by simp
    by_cases hp0 : np = 0
    · have dp : ((np : Int) == 0) = true := by simp [hp0]
      rw [show decide (np = 0) = true from by simp [hp0]] at HF0
      clear hp0 hcv1
      go_enter Tryd.func23, Tryd.ntmps23
      go_wp2_with (first | (go_at_call 45; refine HAll.out.mono ?_; rintro e w' ⟨rfl, rfl⟩) | (go_at_call 51; (first | refine HDo.out.mono ?_ | refine HDr.out.mono ?_); rintro e w' ⟨rfl, rfl⟩) | (go_at_call 30; refine HSm.out.mono ?_; rintro e w' ⟨rfl, hb⟩))
      go_ret
      exact ⟨by rw [HF0.out, ← HBe.out]; rfl, hb⟩
    · have dp : ((np : Int) == 0) = false := by simp; omega
      rw [show decide (np = 0) = false from by simp [hp0]] at HF0
      clear hp0 hcv1
      go_enter Tryd.func23, Tryd.ntmps23
      go_wp2_with (first | (go_at_call 45; refine HAll.out.mono ?_; rintro e w' ⟨rfl, rfl⟩) | (go_at_call 51; (first | refine HDo.out.mono ?_ | refine HDr.out.mono ?_); rintro e w' ⟨rfl, rfl⟩))
      go_ret
      exact ⟨by rw [HF0.out]; rfl, Below.refl _ _⟩
  have dj : ((j : Int) == 0) = false := by simp; omega
  by_cases hjk2 : j = k
  · subst hjk2
    have HF0 : Hid (verExtB old j root j proof = (decide (np = 0) && (old == root))) := by show _ = _; rw [HF.out, if_neg hj0, if_pos rfl, HPe.out]
    have HBe := Lib.hid (show ((bs old).toList == (bs root).toList) = (old == root) by rw [bs_toList, bs_toList])
    clear HF HPe hjk
    by_cases hp0 : np = 0
    · have dp : ((np : Int) == 0) = true := by simp [hp0]
      rw [show decide (np = 0) = true from by simp [hp0]] at HF0
      clear hp0 hcv1
      go_enter Tryd.func23, Tryd.ntmps23
      go_wp2_with (first | (go_at_call 45; refine HAll.out.mono ?_; rintro e w' ⟨rfl, rfl⟩) | (go_at_call 51; (first | refine HDo.out.mono ?_ | refine HDr.out.mono ?_); rintro e w' ⟨rfl, rfl⟩))
      go_ret
      exact ⟨by rw [HF0.out, ← HBe.out]; rfl, Below.refl _ _⟩
    · have dp : ((np : Int) == 0) = false := by simp; omega
      rw [show decide (np = 0) = false from by simp [hp0]] at HF0
      clear hp0 hcv1
      go_enter Tryd.func23, Tryd.ntmps23
      go_wp2_with (first | (go_at_call 45; refine HAll.out.mono ?_; rintro e w' ⟨rfl, rfl⟩) | (go_at_call 51; (first | refine HDo.out.mono ?_ | refine HDr.out.mono ?_); rintro e w' ⟨rfl, rfl⟩))
      go_ret
      exact ⟨by rw [HF0.out]; rfl, Below.refl _ _⟩
  have djk : ((j : Int) == (k : Int)) = false := by simp; omega
  have HFx : Hid (verExtB old j root k proof = (bothR old proof.reverse j k true == some (old, root))) := by show _ = _; rw [HF.out, if_neg hj0, if_neg hjk2]
  clear HF HPe HSm
  refine (callsIn_wide (n := 4)).1 ?_
  refine callsIn_of_wp_marks Tryd.func23 rfl trivial ?_
  simp only [Tryd.ntmps23, List.size_toArray, List.length_cons, List.length_nil, Nat.reduceAdd, Nat.reduceSub, Array.replicate_succ, Array.replicate_zero, List.push_toArray, List.append_toArray, List.nil_append, List.cons_append]
  refine wpIn_wide.2 ?_
  go_wp2_with (first | (go_at_call 45; refine HAll.out.mono ?_; rintro e w' ⟨rfl, rfl⟩) | (go_at_call 51; (first | refine HDo.out.mono ?_ | refine HDr.out.mono ?_); rintro e w' ⟨rfl, rfl⟩))
  clear d0 d1' dj djk HDo HDr HAll
  go_loopw [1, 3, 4, 11, 12] (fun v1 v3 v4 v11 v12 wr => ∃ (m' n' : Nat) (whole : Bool), v1 = .int .i64 m' ∧ v3 = .int .i64 n' ∧ v12 = .bool whole ∧ 1 ≤ m' ∧ m' ≤ n' ∧ n' ≤ k ∧ ExtI old proof j k w.heap.size m' n' v4 v11 whole wr ∧ Below w.heap.size w wr) (fun _ v3 _ _ _ _ => (intOf v3).toNat)
  case atStart => exact ⟨j, k, true, rfl, rfl, rfl, by omega, hjk, Nat.le_refl _, ⟨proof, [], HL.out, OwnD.nil _ _, H32.out, fun x hx => by simp at hx, by simp, by rw [show up1 [] = id from rfl, show upB [] = id from rfl]; simp⟩, Below.refl _ _⟩
  case round =>
    obtain ⟨m', n', whole, rfl, rfl, rfl, hm1, hmn, hnk, ⟨rest, way, hS, hO, hr32, hw32, hlens, hval⟩, hB⟩ := hrel
    have hzB := hB.size
    have HR32 := Lib.hid hr32
    have HW32 := Lib.hid hw32
    have HVal := Lib.hid hval
    have HO := Lib.hid hO
    rw [Hnp.out] at hlens
    clear hr32 hw32 hval hO
    by_cases hn1 : m' < n'
    · have dn : decide (m' < n') = true := by simp; omega
      rcases List.eq_nil_or_concat rest with h0 | ⟨rest0, x, h0⟩
      · subst h0
        obtain ⟨a4, c4, hv4, _, _⟩ := hS.shape
        rw [show ([] : List Bytes).length = 0 from rfl] at hv4
        subst hv4
        have HFf : Hid (verExtB old j root k proof = false) := by show _ = _; rw [HFx.out, HVal.out]; show ((bothR old [] m' n' whole).map _ == some (old, root)) = false; simp only [bothR]; rw [if_neg (by omega)]; rfl
        go_wp2_with (go_at_call 46; refine (take_none _ _ _).mono ?_; rintro e w' ⟨rfl, rfl⟩)
        refine leaves_marks (B := w.heap.size) [] wr ⟨by simp, by simp⟩ fun W9 hb' _ => ?_
        exact ⟨_, results_tmp rfl _ _ _, by rw [HFf.out]; rfl, hB.trans hb'⟩
      · rw [List.concat_eq_append] at h0
        subst h0
        obtain ⟨a4, c4, hv4, hc4, hc4'⟩ := hS.shape
        unfold maxLen at hc4'
        obtain ⟨N, hN⟩ : ∃ N, N = rest0.length := ⟨_, rfl⟩
        have HN := Lib.hid hN
        rw [List.length_append, List.length_singleton, ← hN] at hv4 hc4
        subst hv4
        obtain ⟨b4, o4, ha4, hb4, cl⟩ := hS.lastCell
        subst ha4
        rw [← hN] at cl
        have HTk : Hid (StrsAt w.heap.size wr (.slice (some ⟨b4, o4, none⟩) N c4) rest0) := by
          have := hS.take rest0.length (by simp)
          rw [List.take_left, ← hN] at this
          exact this
        have HTake := Lib.hid (take_some b4 o4 (N + 1) c4 (bs x) wr (by omega) (by omega) (by omega) (by rw [Nat.add_sub_cancel]; exact cl))
        rw [Nat.add_sub_cancel] at HTake
        have hx32 := HR32.out x (by simp)
        have hb := leftN_bd (n := n') (by omega)
        have HLf := Lib.hid (fun W => left_any (n' : Int) W (by omega) (by omega))
        rw [Int.toNat_natCast] at HLf
        have HStep : Hid (bothR old (rest0 ++ [x]).reverse m' n' whole = if m' ≤ leftN n' then (bothR old rest0.reverse m' (leftN n') whole).map (fun p => (p.1, nodeB p.2 x)) else (bothR old rest0.reverse (m' - leftN n') (n' - leftN n') false).map (fun p => (nodeB x p.1, nodeB x p.2))) := by
          show _ = _
          rw [List.reverse_append]
          exact (show bothR old (x :: rest0.reverse) m' n' whole = if m' = n' then (if whole = false ∧ rest0.reverse = [] then some (x, x) else none) else
            if m' ≤ leftN n' then (bothR old rest0.reverse m' (leftN n') whole).map (fun p => (p.1, nodeB p.2 x)) else (bothR old rest0.reverse (m' - leftN n') (n' - leftN n') false).map (fun p => (nodeB x p.1, nodeB x p.2)) from rfl).trans (if_neg (by omega))
        have hwl : way.length ≤ 1000000 := by rw [List.length_append] at hlens; omega
        generalize leftN n' = K at *
        clear hS cl hN
        have HR0 : Hid (∀ y ∈ rest0, y.length = 32) := fun y hy => HR32.out y (by simp [hy])
        by_cases hik : m' ≤ K
        · have dk : decide (K < m') = false := by simp; omega
          have HSt : Hid (bothR old proof.reverse j k true = (bothR old rest0.reverse m' K whole).map (fun p => (up1 (way ++ [(x, false)]) p.1, upB (way ++ [(x, false)]) p.2))) := by
            show _ = _
            rw [HVal.out, HStep.out, if_pos hik, Option.map_map]
            congr 1
            funext p
            show (up1 way p.1, upB way (nodeB p.2 x)) = _
            rw [up1_snoc, upB_snoc]
            rfl
          go_wp2_with (first | (go_at_call 46; refine HTake.out.mono ?_; rintro e w2 ⟨rfl, q, hw2⟩; have hb2 : Below wr.heap.size wr w2 := (by rw [hw2]; exact below_drewN0 (Below.refl _ _) q); have hz2 := hb2.size; have HO2 := Lib.hid (HO.out.below hb2 (Nat.le_refl _)); have HTk2 := Lib.hid (HTk.out.below hb2 hzB); have hB2 := hB.trans (hb2.mono hzB); clear hw2) | (go_at_call 40; refine (HLf.out _).mono ?_; rintro e w' ⟨rfl, rfl⟩) | (at_builtin; refine append_side rfl _ _ rfl w.heap.size u11 way x false rfl rfl HO2.out (by omega) (by omega) w hB2 ?_; intro v5 w3 hO3 hg3 hb3))
          have HW0 : Hid (∀ y ∈ way ++ [(x, false)], y.1.length = 32) := fun y hy => by
            rcases List.mem_append.1 hy with hy | hy
            · exact HW32.out y hy
            · rw [List.mem_singleton.1 hy]; exact hx32
          go_roundw
          case rel => exact ⟨m', K, whole, rfl, rfl, rfl, hm1, hik, by omega, ⟨rest0, way ++ [(x, false)], HTk2.out.below (below_of_row (by omega) hg3 HO2.out) (Nat.le_refl _), hO3, HR0.out, HW0.out, by rw [Hnp.out]; simp at hlens ⊢; omega, HSt.out⟩, hb3⟩
          case measure => simp [intOf]; omega
        · have dk : decide (K < m') = true := by simp; omega
          have HSt : Hid (bothR old proof.reverse j k true = (bothR old rest0.reverse (m' - K) (n' - K) false).map (fun p => (up1 (way ++ [(x, true)]) p.1, upB (way ++ [(x, true)]) p.2))) := by
            show _ = _
            rw [HVal.out, HStep.out, if_neg hik, Option.map_map]
            congr 1
            funext p
            show (up1 way (nodeB x p.1), upB way (nodeB x p.2)) = _
            rw [up1_snoc, upB_snoc]
            rfl
          have dw1 : IntKind.i64.wrap ((m' : Int) - (K : Int)) = (m' : Int) - (K : Int) := IntWalk.i64_in _ (by omega)
          have dw2 : IntKind.i64.wrap ((n' : Int) - (K : Int)) = (n' : Int) - (K : Int) := IntWalk.i64_in _ (by omega)
          go_wp2_with (first | (go_at_call 46; refine HTake.out.mono ?_; rintro e w2 ⟨rfl, q, hw2⟩; have hb2 : Below wr.heap.size wr w2 := (by rw [hw2]; exact below_drewN0 (Below.refl _ _) q); have hz2 := hb2.size; have HO2 := Lib.hid (HO.out.below hb2 (Nat.le_refl _)); have HTk2 := Lib.hid (HTk.out.below hb2 hzB); have hB2 := hB.trans (hb2.mono hzB); clear hw2) | (go_at_call 40; refine (HLf.out _).mono ?_; rintro e w' ⟨rfl, rfl⟩) | (at_builtin; refine append_side rfl _ _ rfl w.heap.size u11 way x true rfl rfl HO2.out (by omega) (by omega) w hB2 ?_; intro v5 w3 hO3 hg3 hb3))
          have HW0 : Hid (∀ y ∈ way ++ [(x, true)], y.1.length = 32) := fun y hy => by
            rcases List.mem_append.1 hy with hy | hy
            · exact HW32.out y hy
            · rw [List.mem_singleton.1 hy]; exact hx32
          go_roundw
          case rel => exact ⟨m' - K, n' - K, false, congrArg (Value.int .i64) (by omega), congrArg (Value.int .i64) (by omega), rfl, by omega, by omega, by omega, ⟨rest0, way ++ [(x, true)], HTk2.out.below (below_of_row (by omega) hg3 HO2.out) (Nat.le_refl _), hO3, HR0.out, HW0.out, by rw [Hnp.out]; simp at hlens ⊢; omega, HSt.out⟩, hb3⟩
          case measure => simp [intOf]; omega
    · obtain rfl : m' = n' := by omega
      have dn : decide (m' < m') = false := by simp
      obtain ⟨a4, c4, hv4, hc4, hc4'⟩ := hS.shape
      have hlw : w.heap.size ≠ 0 := by have := HT.out.lt; omega
      obtain ⟨a3, g3, cp3, hv11, ha3, hg3, hc3⟩ := HO.out.shape4 (by omega)
      obtain ⟨M, hM⟩ : ∃ M, M = way.length := ⟨_, rfl⟩
      have HM := Lib.hid hM
      rw [← hM] at hv11 ha3 hc3
      have hMb : M ≤ 1000000 := by omega
      have HC3 := Lib.hid hc3
      have HA3 := Lib.hid ha3
      subst hv11
      subst hv4
      cases whole
      · by_cases hR1 : rest.length = 1
        · obtain ⟨x, rfl⟩ : ∃ x, rest = [x] := by
            cases rest with
            | nil => simp at hR1
            | cons a t => cases t with | nil => exact ⟨a, rfl⟩ | cons b t => simp at hR1
          have HRes : Hid (verExtB old j root k proof = ((up1 way x == old) && (upB way x == root))) := by
            show _ = _
            rw [HFx.out, HVal.out]
            exact (show ((if m' = m' then (if false = false ∧ ([] : List Bytes) = [] then some (x, x) else none) else _).map (fun p : Bytes × Bytes => (up1 way p.1, upB way p.2)) == some (old, root)) = _ by rw [if_pos rfl, if_pos ⟨rfl, rfl⟩]; rfl)
          have hx32 := HR32.out x (by simp)
          obtain ⟨b4, o4, ha4, hb4, cl⟩ := hS.at 0 (by simp)
          subst ha4
          rw [show ([x] : List Bytes).getD 0 [] = x from rfl, Nat.add_zero] at cl
          rw [show ([x] : List Bytes).length = 1 from rfl] at hc4 hlens ⊢
          clear hR1 HVal HFx hM hc3 ha3 hS HR32
          go_wp2
          obtain ⟨W1, hW1⟩ : ∃ W1, W1 = (wr.alloc (.cells #[.string (bs old)] 9)).alloc (.cells #[.string (bs old)] 9) := ⟨_, rfl⟩
          rw [← hW1]
          have hb1 : Below wr.heap.size wr W1 := by rw [hW1]; exact ((Below.refl _ wr).alloc (Nat.le_refl _) _).alloc (by simp) _
          have hz1 : wr.heap.size + 2 ≤ W1.heap.size := by rw [hW1]; simp
          have hR0 : ExtR b4 o4 wr.heap.size (wr.heap.size + 1) x W1 W1 :=
            ⟨⟨_, by rw [hW1]; exact (Boxed.new wr 9 (.string (bs old))).alloc _⟩, ⟨_, by rw [hW1]; have := Boxed.new (wr.alloc (.cells #[.string (bs old)] 9)) 9 (.string (bs old)); rwa [World.size_alloc] at this⟩, (hb1.cell (p := ⟨b4, o4, none⟩) (show b4 < _ by omega)).trans cl, Two.refl _ _ _⟩
          have HR0 := Lib.hid hR0
          have hx1 : wr.heap.size ≠ wr.heap.size + 1 := by omega
          have hx2 : b4 ≠ wr.heap.size := by omega
          have hx3 : b4 ≠ wr.heap.size + 1 := by omega
          have HX1 := Lib.hid hx1
          have HX2 := Lib.hid hx2
          have HX3 := Lib.hid hx3
          have HB1 := Lib.hid hb1
          have HZ1 := Lib.hid hz1
          clear hR0 hx1 hx2 hx3 cl hW1 hb1 hz1
          go_region_held3 (fun W' => W'.cell? ⟨b4, o4, none⟩ = some (.string (bs x)) ∧ W'.cell? ⟨wr.heap.size, 0, none⟩ = some (oldAt W' ⟨wr.heap.size, 0, none⟩) ∧ W'.frozen? ⟨wr.heap.size, 0, none⟩ = false ∧ W'.cell? ⟨wr.heap.size + 1, 0, none⟩ = some (oldAt W' ⟨wr.heap.size + 1, 0, none⟩) ∧ W'.frozen? ⟨wr.heap.size + 1, 0, none⟩ = false)
            (first | (refine ExtR.s (W0 := W1) ?_; ((repeat (first | exact HR0.out | refine ExtR.set1 ?_ HX1.out HX2.out _ | refine ExtR.set2 ?_ HX1.out HX3.out _ | apply ExtR.drewN | apply ExtR.drew)); done)))
            (first | fail)
          all_goals
            rename_i hHeld
            clear hHeld
            refine gen_at (P := fun W => Exit.then _ _ _ _ W) (fun W' => (Boxed W' wr.heap.size 9 (.string (bs x)) ∧ Boxed W' (wr.heap.size + 1) 9 (.string (bs x))) ∧ Below wr.heap.size wr W' ∧ wr.heap.size + 2 ≤ W'.heap.size) ?_ ?_
            · have hT : ∀ W', ExtR b4 o4 wr.heap.size (wr.heap.size + 1) x W1 W' → Below wr.heap.size wr W' ∧ wr.heap.size + 2 ≤ W'.heap.size := fun W' h => ⟨HB1.out.trans (h.2.2.2.below (Nat.le_refl _) (by omega) HB1.out.size), Nat.le_trans HZ1.out h.2.2.2.size⟩
              have hB2 : ∀ (W' : World) v, ExtR b4 o4 wr.heap.size (wr.heap.size + 1) x W1 W' → Boxed ((W'.setCell ⟨wr.heap.size, 0, none⟩ v).setCell ⟨wr.heap.size + 1, 0, none⟩ v) wr.heap.size 9 v ∧ Boxed ((W'.setCell ⟨wr.heap.size, 0, none⟩ v).setCell ⟨wr.heap.size + 1, 0, none⟩ v) (wr.heap.size + 1) 9 v := fun W' v h => by
                obtain ⟨⟨v1, hb1⟩, ⟨v2, hb2⟩, _⟩ := h
                exact ⟨(hb1.set v).other HX1.out v, (hb2.other (fun e => HX1.out e.symm) v).set v⟩
              refine ⟨?_, hT _ ?_⟩
              · refine hB2 _ _ ?_
                repeat (first | exact HR0.out | refine ExtR.set1 ?_ HX1.out HX2.out _ | refine ExtR.set2 ?_ HX1.out HX3.out _ | apply ExtR.drewN | apply ExtR.drew)
              · repeat (first | exact HR0.out | refine ExtR.set1 ?_ HX1.out HX2.out _ | refine ExtR.set2 ?_ HX1.out HX3.out _ | apply ExtR.drewN | apply ExtR.drew)
            clear HR0 HX1 HX2 HX3 HB1 HZ1 HO
            clear W1
            rintro W6 ⟨⟨hx1, hx2⟩, hb6, hz6⟩
            have HX1 := Lib.hid hx1
            have HX2 := Lib.hid hx2
            have HB6 := Lib.hid hb6
            clear hx1 hx2 hb6
            go_wp2
            refine wp_gen (fun W' => (Boxed W' wr.heap.size 9 (.string (bs x)) ∧ Boxed W' (wr.heap.size + 1) 9 (.string (bs x)) ∧ Boxed W' (W6.heap.size) 54 (.slice a3 M cp3)) ∧ Below wr.heap.size wr W' ∧ W6.heap.size < W'.heap.size) ⟨⟨HX1.out.alloc _, HX2.out.alloc _, Boxed.new _ _ _⟩, HB6.out.alloc (by omega) _, by simp⟩ ?_
            rintro W3 ⟨⟨hbo1, hbo2, hbs⟩, hbw, hzw⟩
            have hzw0 : wr.heap.size + 1 < W6.heap.size := by omega
            have hcells : ∀ i, i < M → W3.cell? ⟨g3, i * 2, none⟩ = some (.string (gS way i)) ∧ W3.cell? ⟨g3, i * 2 + 1, none⟩ = some (.bool (gF way i)) := fun i hi =>
              ⟨(hbw.cell (p := ⟨g3, i * 2, none⟩) hg3).trans (HC3.out i hi).1, (hbw.cell (p := ⟨g3, i * 2 + 1, none⟩) hg3).trans (HC3.out i hi).2⟩
            have HUp1 := Lib.hid (up1_back way x M HM.out.symm)
            have HUp2 := Lib.hid (up_back way x M HM.out.symm)
            have hBt : Below w.heap.size w W3 := hB.trans (hbw.mono hzB)
            refine (wpIn_wide (n := 4)).1 ?_
            refine wpIn_rangeFunc_ownH rfl (by omega) (gf := 63) (lb := #[.pointer (some ⟨W6.heap.size, 0, none⟩)]) rfl trivial (enters_of Tryd.func63 (by kernel_rfl) rfl)
              (backS1_seq _ (W6.heap.size) g3 M cp3 a3 (gS way) (gF way) (KpTwo W3.heap.size wr.heap.size (wr.heap.size + 1)) W3 hbs (by omega) HA3.out hcells (fun A B h => h _ (by omega) (by omega) (by omega)) (fun A B h => h _ (by omega) (by omega) (by omega))) kpTwo_t (kpTwo_b (Nat.le_refl _)) (Below.refl _ _) (fun _ => rfl)
              (UpJ way x M wr.heap.size (wr.heap.size + 1) W3) (fun _ _ _ => False) (upJ_own _ _ _ _ _ _ _ (Nat.le_refl _) (by omega) (by omega)) (fun c => fun _ _ _ _ h => h.elim)
              ⟨hbo1, hbo2, Two.refl _ _ _⟩ (SideAx way M W3.heap.size ?frA) (sideAx_own _ _ _ _ _) ?assignA ?bodyA ?doneA ?stopA
            case assignA =>
              rintro l' pre x' W' K ⟨hbx1, hbx2, hG⟩ hK
              have hzG := hG.size
              gi_wp2
              obtain ⟨Bx, hBx⟩ : ∃ Bx, Bx = W'.heap.size := ⟨_, rfl⟩
              have hnew : (W'.alloc (.cells #[.string (gS way x'.1), .bool (gF way x'.1)] 58)).heap[Bx]? = some (.cells #[.string (gS way x'.1), .bool (gF way x'.1)] 58 (0, 0)) := by rw [hBx]; exact heap_alloc_new W' _
              have hle : W3.heap.size ≤ Bx := by omega
              rw [← hBx]
              have hK2 := hK _ (W'.alloc (.cells #[.string (gS way x'.1), .bool (gF way x'.1)] 58)) ((KeepsOthers.alloc _ _).from _) (fun k hk _ _ => Below.heap_alloc _ _ _ (by omega)) ⟨hbx1.alloc _, hbx2.alloc _, hG.trans (Two.of0 (World.grownBy_alloc _ _ _))⟩ ⟨Bx, hle, hnew, rfl⟩
              exact hK2
            case stopA =>
              rintro D c pre W' _ _ h _
              exact h.elim
            case bodyA =>
              rintro l' pre ⟨x', hx⟩ a' W' hl' ⟨r, hr⟩ ⟨hbx1, hbx2, hG⟩ ⟨Bx, hle, hblk, ha'⟩ hlt
              subst ha'
              dsimp only at hblk ⊢
              have hzG := hG.size
              have hxl : (way.getD x' ([], false)).1.length = 32 := HW32.out _ (getD_mem' _ _ _ (by rw [← HM.out]; exact hx))
              have ho1l := fold1_length way pre x hx32
              have ho2l := foldJ_length way pre x hx32
              have hF1 : (pre ++ [(⟨x', hx⟩ : Fin M)]).foldl (fun o (i : Fin M) => join1 (way.getD i.1 ([], false)) o) x = join1 (way.getD x' ([], false)) (pre.foldl (fun o i => join1 (way.getD i.1 ([], false)) o) x) := by rw [List.foldl_append]; rfl
              have hF2 : (pre ++ [(⟨x', hx⟩ : Fin M)]).foldl (fun o (i : Fin M) => joinB (way.getD i.1 ([], false)) o) x = joinB (way.getD x' ([], false)) (pre.foldl (fun o i => joinB (way.getD i.1 ([], false)) o) x) := by rw [List.foldl_append]; rfl
              generalize pre.foldl (fun o i => join1 (way.getD i.1 ([], false)) o) x = o1 at *
              generalize pre.foldl (fun o i => joinB (way.getD i.1 ([], false)) o) x = o2 at *
              have HF1 := Lib.hid hF1
              have HF2 := Lib.hid hF2
              have HJ1 : Hid (∀ W, Rounds W → Calls Tryd.prog 48 #[.agg #[.string (gS way x'), .bool (gF way x')], .string (bs o1)] W fun e w' => e = .returned (.string (bs (joinB (way.getD x' ([], false)) o1))) ∧ Below W.heap.size W w') :=
                fun W hR => join_any (way.getD x' ([], false)).1 o1 (way.getD x' ([], false)).2 W (by omega) (by omega) hR
              have HJ2 : Hid (∀ W, Rounds W → Calls Tryd.prog 48 #[.agg #[.string (gS way x'), .bool (gF way x')], .string (bs o2)] W fun e w' => e = .returned (.string (bs (joinB (way.getD x' ([], false)) o2))) ∧ Below W.heap.size W w') :=
                fun W hR => join_any (way.getD x' ([], false)).1 o2 (way.getD x' ([], false)).2 W (by omega) (by omega) hR
              have HJoin1 : Hid (join1 (way.getD x' ([], false)) o1 = if gF way x' then joinB (way.getD x' ([], false)) o1 else o1) := rfl
              have c0 : W'.cell? ⟨Bx, 0, none⟩ = some (.string (gS way x')) := cell_of_row _ Bx 0 _ _ _ hblk
              have c1 : W'.cell? ⟨Bx, 1, none⟩ = some (.bool (gF way x')) := cell_of_row _ Bx 1 _ _ _ hblk
              have cb1 := hbx1.cell
              have cb2 := hbx2.cell
              have hblt : Bx < W'.heap.size := (Array.getElem?_eq_some_iff.1 hblk).1
              have hR' : Rounds W' := HT.out.below (hBt.trans (hG.below (by omega) (by omega) (by omega))) (Nat.le_refl _)
              have HR' := Lib.hid hR'
              have HBx1 := Lib.hid hbx1
              have HBx2 := Lib.hid hbx2
              have HG := Lib.hid hG
              have HBlk := Lib.hid hblk
              have hBn1 : Bx ≠ wr.heap.size := by omega
              have hBn2 : Bx ≠ wr.heap.size + 1 := by omega
              have hgt : 0 < wr.heap.size := by have := HT.out.lt; omega
              clear hbx1 hbx2 hG hblk hxl hF1 hF2 ho1l ho2l hR'
              generalize gS way x' = gs at *
              generalize gF way x' = gf at *
              generalize joinB (way.getD x' ([], false)) o1 = q1 at *
              generalize joinB (way.getD x' ([], false)) o2 = q2 at *
              cases gf
              · gi_wp2_with (refine ⟨trivial, ?_⟩; gi_at_call 48; refine (CallsIn.inRound l' (callsIn_wide.2 (HJ2.out _ HR'.out))).mono ?_; rintro e w3 ⟨rfl, hb3⟩; have hb3x : Boxed w3 (wr.heap.size + 1) 9 (.string (bs o2)) := (hb3.block _ HBx2.out.lt).trans HBx2.out; have cb3 := hb3x.cell; have fb3 := hb3x.frozen)
                have hg3' : Two wr.heap.size (wr.heap.size + 1) W' (w3.setCell ⟨wr.heap.size + 1, 0, none⟩ (.string (bs q2))) := Two.of2 (grownBy_set (grown_of_below hb3 _))
                refine ⟨hg3'.keeps (by omega) (by omega), kpTwo_two hg3' hzG, ?_, ?_, HG.out.trans hg3'⟩
                · rw [HF1.out, HJoin1.out]
                  exact Boxed.other (show Boxed w3 wr.heap.size 9 (.string (bs o1)) from (hb3.block _ HBx1.out.lt).trans HBx1.out) (by omega) _
                · rw [HF2.out]
                  exact hb3x.set _
              · gi_wp2_with (first | (refine ⟨trivial, ?_⟩; gi_at_call 48; refine (CallsIn.inRound l' (callsIn_wide.2 (HJ2.out _ HR3.out))).mono ?_; rintro e w9 ⟨rfl, hb9⟩; have hb9x : Boxed w9 (wr.heap.size + 1) 9 (.string (bs o2)) := (hb9.block _ HS2.out.lt).trans HS2.out; have cb9 := hb9x.cell; have fb9 := hb9x.frozen) | (refine ⟨trivial, ?_⟩; gi_at_call 48; refine (CallsIn.inRound l' (callsIn_wide.2 (HJ1.out _ HR'.out))).mono ?_; rintro e w3 ⟨rfl, hb3⟩; have hb31 : Boxed w3 wr.heap.size 9 (.string (bs o1)) := (hb3.block _ HBx1.out.lt).trans HBx1.out; have cb3 := hb31.cell; have fb3 := hb31.frozen; have hb32 : Boxed w3 (wr.heap.size + 1) 9 (.string (bs o2)) := (hb3.block _ HBx2.out.lt).trans HBx2.out; have hs2 : Boxed (w3.setCell ⟨wr.heap.size, 0, none⟩ (.string (bs q1))) (wr.heap.size + 1) 9 (.string (bs o2)) := hb32.other (by omega) _; have cs2 := hs2.cell; have HS2 := Lib.hid hs2; have HS1 := Lib.hid (hb31.set (.string (bs q1))); have ht3 : Two wr.heap.size (wr.heap.size + 1) W' (w3.setCell ⟨wr.heap.size, 0, none⟩ (.string (bs q1))) := Two.of1 (grownBy_set (grown_of_below hb3 _)); have hk3 : (w3.setCell ⟨wr.heap.size, 0, none⟩ (.string (bs q1))).heap[Bx]? = some (.cells #[.string gs, .bool true] 58 (0, 0)) := (ht3.2.2.2.2 _ hblt hBn1 hBn2).trans HBlk.out; have cx0 : (w3.setCell ⟨wr.heap.size, 0, none⟩ (.string (bs q1))).cell? ⟨Bx, 0, none⟩ = some (.string gs) := cell_of_row _ Bx 0 _ _ _ hk3; have cx1 : (w3.setCell ⟨wr.heap.size, 0, none⟩ (.string (bs q1))).cell? ⟨Bx, 1, none⟩ = some (.bool true) := cell_of_row _ Bx 1 _ _ _ hk3; have HT3 := Lib.hid ht3; have HR3 := Lib.hid (HT.out.below (hBt.trans ((HG.out.trans ht3).below (B := w.heap.size) (by omega) (by omega) (by omega))) (Nat.le_refl _)); clear hb31 hb32 hs2 ht3 hk3))
                have hg9 : Two wr.heap.size (wr.heap.size + 1) W' (w9.setCell ⟨wr.heap.size + 1, 0, none⟩ (.string (bs q2))) := HT3.out.trans (Two.of2 (grownBy_set (grown_of_below hb9 _)))
                refine ⟨hg9.keeps (by omega) (by omega), kpTwo_two hg9 hzG, ?_, ?_, HG.out.trans hg9⟩
                · rw [HF1.out, HJoin1.out]
                  exact Boxed.other (show Boxed w9 wr.heap.size 9 (.string (bs q1)) from (hb9.block _ HS1.out.lt).trans HS1.out) (by omega) _
                · rw [HF2.out]
                  exact hb9x.set _
            case doneA =>
              rintro D xs W' hD rfl ⟨hbx1, hbx2, hG⟩ hK
              rw [HUp1.out M (Nat.le_refl _), Nat.sub_self, List.drop_zero] at hbx1
              rw [HUp2.out M (Nat.le_refl _), Nat.sub_self, List.drop_zero] at hbx2
              have cb1 := hbx1.cell
              have cb2 := hbx2.cell
              have HK := Lib.hid hK
              have HAllw := Lib.hid (hBt.trans (hG.below (B := w.heap.size) (by omega) (by omega) (by omega)))
              have hzG := hG.size
              clear hK hG hbx1 hbx2 HUp1 HUp2 hcells
              generalize up1 way x = U1 at *
              generalize upB way x = U2 at *
              have HBe1 := Lib.hid (show ((bs U1).toList == (bs old).toList) = (U1 == old) by rw [bs_toList, bs_toList])
              have HBe2 := Lib.hid (show ((bs U2).toList == (bs root).toList) = (U2 == root) by rw [bs_toList, bs_toList])
              cases hq : (U1 == old)
              · have hq1 : ((bs U1).toList == (bs old).toList) = false := by rw [HBe1.out, hq]
                rw [hq] at HRes
                clear hq HBe1
                go_wp2
                have hKD := HK.out
                refine leaves_marks (B := w.heap.size) [D] W' ⟨by simp, fun D' hD' => ?_⟩ fun W9 hb' _ => ?_
                · rw [List.mem_singleton.1 hD']
                  exact ⟨by omega, hKD⟩
                · exact ⟨_, results_tmp rfl _ _ _, by rw [HRes.out]; rfl, HAllw.out.trans hb'⟩
              · have hq1 : ((bs U1).toList == (bs old).toList) = true := by rw [HBe1.out, hq]
                rw [hq] at HRes
                clear hq HBe1
                go_wp2
                have hKD := HK.out
                refine leaves_marks (B := w.heap.size) [D] W' ⟨by simp, fun D' hD' => ?_⟩ fun W9 hb' _ => ?_
                · rw [List.mem_singleton.1 hD']
                  exact ⟨by omega, hKD⟩
                · exact ⟨_, results_tmp rfl _ _ _, by rw [HRes.out, ← HBe2.out]; rfl, HAllw.out.trans hb'⟩
        · have HFf : Hid (verExtB old j root k proof = false) := by
            show _ = _
            rw [HFx.out, HVal.out]
            cases hrr : rest.reverse with
            | nil => simp only [bothR]; rw [if_neg (by simp)]; rfl
            | cons y t =>
              have : t ≠ [] := fun e => hR1 (by rw [← List.length_reverse, hrr, e]; rfl)
              simp only [bothR]
              rw [if_pos trivial, if_neg (fun h => this h.2)]
              rfl
          have d9 : (((rest.length : Nat) : Int) == 1) = false := by simp; omega
          generalize rest.length = RL at *
          clear hR1 HVal HFx hM hc3 ha3 hS HR32
          go_wp2
          refine leaves_marks (B := w.heap.size) [] _ ⟨by simp, by simp⟩ fun W9 hb' _ => ?_
          exact ⟨_, results_tmp rfl _ _ _, by rw [HFf.out]; rfl, Below.trans (by repeat (first | exact hB | (refine Below.setCell_ge ?_ ?_) | (refine Below.alloc ?_ (by first | omega | (simp; omega)) _))) hb'⟩
      · have HRes : Hid (verExtB old j root k proof = (rest.isEmpty && ((up1 way old == old) && (upB way old == root)))) := by
          show _ = _
          rw [HFx.out, HVal.out]
          cases hrr : rest.reverse with
          | nil =>
            obtain rfl : rest = [] := by simpa using hrr
            simp only [bothR]
            rw [if_pos (by simp)]
            rfl
          | cons y t =>
            have hne : rest.isEmpty = false := by cases rest with | nil => simp at hrr | cons a b => rfl
            simp only [bothR]
            first | rw [if_pos rfl, if_neg (by simp), hne] | rw [if_pos trivial, if_neg (by simp), hne]
            rfl
        rw [show rest.isEmpty = decide (rest.length = 0) from by cases rest <;> simp] at HRes
        generalize rest.length = RL at *
        clear HVal HFx hM hc3 ha3 hS HR32
        go_wp2

        refine wp_gen (fun W' => (Boxed W' wr.heap.size 9 (.string (bs old)) ∧ Boxed W' (wr.heap.size + 1) 9 (.string (bs old)) ∧ Boxed W' (wr.heap.size + 2) 54 (.slice a3 M cp3)) ∧ Below wr.heap.size wr W' ∧ wr.heap.size + 2 < W'.heap.size) ⟨⟨((Boxed.new wr 9 (.string (bs old))).alloc _).alloc _, (by have := Boxed.new (wr.alloc (.cells #[.string (bs old)] 9)) 9 (.string (bs old)); rw [World.size_alloc] at this; exact this.alloc _), (by have := Boxed.new ((wr.alloc (.cells #[.string (bs old)] 9)).alloc (.cells #[.string (bs old)] 9)) 54 (.slice a3 M cp3); simpa using this)⟩, (((Below.refl _ wr).alloc (Nat.le_refl _) _).alloc (by simp) _).alloc (by simp; omega) _, by simp⟩ ?_
        rintro W3 ⟨⟨hbo1, hbo2, hbs⟩, hbw, hzw⟩
        have hzw0 : wr.heap.size + 1 < wr.heap.size + 2 := by omega
        have hcells : ∀ i, i < M → W3.cell? ⟨g3, i * 2, none⟩ = some (.string (gS way i)) ∧ W3.cell? ⟨g3, i * 2 + 1, none⟩ = some (.bool (gF way i)) := fun i hi =>
          ⟨(hbw.cell (p := ⟨g3, i * 2, none⟩) hg3).trans (HC3.out i hi).1, (hbw.cell (p := ⟨g3, i * 2 + 1, none⟩) hg3).trans (HC3.out i hi).2⟩
        have HUp1 := Lib.hid (up1_back way old M HM.out.symm)
        have HUp2 := Lib.hid (up_back way old M HM.out.symm)
        have hBt : Below w.heap.size w W3 := hB.trans (hbw.mono hzB)
        refine (wpIn_wide (n := 4)).1 ?_
        refine wpIn_rangeFunc_ownH rfl (by omega) (gf := 63) (lb := #[.pointer (some ⟨wr.heap.size + 2, 0, none⟩)]) rfl trivial (enters_of Tryd.func63 (by kernel_rfl) rfl)
          (backS1_seq _ (wr.heap.size + 2) g3 M cp3 a3 (gS way) (gF way) (KpTwo W3.heap.size wr.heap.size (wr.heap.size + 1)) W3 hbs (by omega) HA3.out hcells (fun A B h => h _ (by omega) (by omega) (by omega)) (fun A B h => h _ (by omega) (by omega) (by omega))) kpTwo_t (kpTwo_b (Nat.le_refl _)) (Below.refl _ _) (fun _ => rfl)
          (UpJ way old M wr.heap.size (wr.heap.size + 1) W3) (fun _ _ _ => False) (upJ_own _ _ _ _ _ _ _ (Nat.le_refl _) (by omega) (by omega)) (fun c => fun _ _ _ _ h => h.elim)
          ⟨hbo1, hbo2, Two.refl _ _ _⟩ (SideAx way M W3.heap.size ?frB) (sideAx_own _ _ _ _ _) ?assignB ?bodyB ?doneB ?stopB
        case assignB =>
          rintro l' pre x' W' K ⟨hbx1, hbx2, hG⟩ hK
          have hzG := hG.size
          gi_wp2
          obtain ⟨Bx, hBx⟩ : ∃ Bx, Bx = W'.heap.size := ⟨_, rfl⟩
          have hnew : (W'.alloc (.cells #[.string (gS way x'.1), .bool (gF way x'.1)] 58)).heap[Bx]? = some (.cells #[.string (gS way x'.1), .bool (gF way x'.1)] 58 (0, 0)) := by rw [hBx]; exact heap_alloc_new W' _
          have hle : W3.heap.size ≤ Bx := by omega
          rw [← hBx]
          have hK2 := hK _ (W'.alloc (.cells #[.string (gS way x'.1), .bool (gF way x'.1)] 58)) ((KeepsOthers.alloc _ _).from _) (fun k hk _ _ => Below.heap_alloc _ _ _ (by omega)) ⟨hbx1.alloc _, hbx2.alloc _, hG.trans (Two.of0 (World.grownBy_alloc _ _ _))⟩ ⟨Bx, hle, hnew, rfl⟩
          exact hK2
        case stopB =>
          rintro D c pre W' _ _ h _
          exact h.elim
        case bodyB =>
          rintro l' pre ⟨x', hx⟩ a' W' hl' ⟨r, hr⟩ ⟨hbx1, hbx2, hG⟩ ⟨Bx, hle, hblk, ha'⟩ hlt
          subst ha'
          dsimp only at hblk ⊢
          have hzG := hG.size
          have hxl : (way.getD x' ([], false)).1.length = 32 := HW32.out _ (getD_mem' _ _ _ (by rw [← HM.out]; exact hx))
          have ho1l := fold1_length way pre old HO32.out
          have ho2l := foldJ_length way pre old HO32.out
          have hF1 : (pre ++ [(⟨x', hx⟩ : Fin M)]).foldl (fun o (i : Fin M) => join1 (way.getD i.1 ([], false)) o) old = join1 (way.getD x' ([], false)) (pre.foldl (fun o i => join1 (way.getD i.1 ([], false)) o) old) := by rw [List.foldl_append]; rfl
          have hF2 : (pre ++ [(⟨x', hx⟩ : Fin M)]).foldl (fun o (i : Fin M) => joinB (way.getD i.1 ([], false)) o) old = joinB (way.getD x' ([], false)) (pre.foldl (fun o i => joinB (way.getD i.1 ([], false)) o) old) := by rw [List.foldl_append]; rfl
          generalize pre.foldl (fun o i => join1 (way.getD i.1 ([], false)) o) old = o1 at *
          generalize pre.foldl (fun o i => joinB (way.getD i.1 ([], false)) o) old = o2 at *
          have HF1 := Lib.hid hF1
          have HF2 := Lib.hid hF2
          have HJ1 : Hid (∀ W, Rounds W → Calls Tryd.prog 48 #[.agg #[.string (gS way x'), .bool (gF way x')], .string (bs o1)] W fun e w' => e = .returned (.string (bs (joinB (way.getD x' ([], false)) o1))) ∧ Below W.heap.size W w') :=
            fun W hR => join_any (way.getD x' ([], false)).1 o1 (way.getD x' ([], false)).2 W (by omega) (by omega) hR
          have HJ2 : Hid (∀ W, Rounds W → Calls Tryd.prog 48 #[.agg #[.string (gS way x'), .bool (gF way x')], .string (bs o2)] W fun e w' => e = .returned (.string (bs (joinB (way.getD x' ([], false)) o2))) ∧ Below W.heap.size W w') :=
            fun W hR => join_any (way.getD x' ([], false)).1 o2 (way.getD x' ([], false)).2 W (by omega) (by omega) hR
          have HJoin1 : Hid (join1 (way.getD x' ([], false)) o1 = if gF way x' then joinB (way.getD x' ([], false)) o1 else o1) := rfl
          have c0 : W'.cell? ⟨Bx, 0, none⟩ = some (.string (gS way x')) := cell_of_row _ Bx 0 _ _ _ hblk
          have c1 : W'.cell? ⟨Bx, 1, none⟩ = some (.bool (gF way x')) := cell_of_row _ Bx 1 _ _ _ hblk
          have cb1 := hbx1.cell
          have cb2 := hbx2.cell
          have hblt : Bx < W'.heap.size := (Array.getElem?_eq_some_iff.1 hblk).1
          have hR' : Rounds W' := HT.out.below (hBt.trans (hG.below (by omega) (by omega) (by omega))) (Nat.le_refl _)
          have HR' := Lib.hid hR'
          have HBx1 := Lib.hid hbx1
          have HBx2 := Lib.hid hbx2
          have HG := Lib.hid hG
          have HBlk := Lib.hid hblk
          have hBn1 : Bx ≠ wr.heap.size := by omega
          have hBn2 : Bx ≠ wr.heap.size + 1 := by omega
          have hgt : 0 < wr.heap.size := by have := HT.out.lt; omega
          clear hbx1 hbx2 hG hblk hxl hF1 hF2 ho1l ho2l hR'
          generalize gS way x' = gs at *
          generalize gF way x' = gf at *
          generalize joinB (way.getD x' ([], false)) o1 = q1 at *
          generalize joinB (way.getD x' ([], false)) o2 = q2 at *
          cases gf
          · gi_wp2_with (refine ⟨trivial, ?_⟩; gi_at_call 48; refine (CallsIn.inRound l' (callsIn_wide.2 (HJ2.out _ HR'.out))).mono ?_; rintro e w3 ⟨rfl, hb3⟩; have hb3x : Boxed w3 (wr.heap.size + 1) 9 (.string (bs o2)) := (hb3.block _ HBx2.out.lt).trans HBx2.out; have cb3 := hb3x.cell; have fb3 := hb3x.frozen)
            have hg3' : Two wr.heap.size (wr.heap.size + 1) W' (w3.setCell ⟨wr.heap.size + 1, 0, none⟩ (.string (bs q2))) := Two.of2 (grownBy_set (grown_of_below hb3 _))
            refine ⟨hg3'.keeps (by omega) (by omega), kpTwo_two hg3' hzG, ?_, ?_, HG.out.trans hg3'⟩
            · rw [HF1.out, HJoin1.out]
              exact Boxed.other (show Boxed w3 wr.heap.size 9 (.string (bs o1)) from (hb3.block _ HBx1.out.lt).trans HBx1.out) (by omega) _
            · rw [HF2.out]
              exact hb3x.set _
          · gi_wp2_with (first | (refine ⟨trivial, ?_⟩; gi_at_call 48; refine (CallsIn.inRound l' (callsIn_wide.2 (HJ2.out _ HR3.out))).mono ?_; rintro e w9 ⟨rfl, hb9⟩; have hb9x : Boxed w9 (wr.heap.size + 1) 9 (.string (bs o2)) := (hb9.block _ HS2.out.lt).trans HS2.out; have cb9 := hb9x.cell; have fb9 := hb9x.frozen) | (refine ⟨trivial, ?_⟩; gi_at_call 48; refine (CallsIn.inRound l' (callsIn_wide.2 (HJ1.out _ HR'.out))).mono ?_; rintro e w3 ⟨rfl, hb3⟩; have hb31 : Boxed w3 wr.heap.size 9 (.string (bs o1)) := (hb3.block _ HBx1.out.lt).trans HBx1.out; have cb3 := hb31.cell; have fb3 := hb31.frozen; have hb32 : Boxed w3 (wr.heap.size + 1) 9 (.string (bs o2)) := (hb3.block _ HBx2.out.lt).trans HBx2.out; have hs2 : Boxed (w3.setCell ⟨wr.heap.size, 0, none⟩ (.string (bs q1))) (wr.heap.size + 1) 9 (.string (bs o2)) := hb32.other (by omega) _; have cs2 := hs2.cell; have HS2 := Lib.hid hs2; have HS1 := Lib.hid (hb31.set (.string (bs q1))); have ht3 : Two wr.heap.size (wr.heap.size + 1) W' (w3.setCell ⟨wr.heap.size, 0, none⟩ (.string (bs q1))) := Two.of1 (grownBy_set (grown_of_below hb3 _)); have hk3 : (w3.setCell ⟨wr.heap.size, 0, none⟩ (.string (bs q1))).heap[Bx]? = some (.cells #[.string gs, .bool true] 58 (0, 0)) := (ht3.2.2.2.2 _ hblt hBn1 hBn2).trans HBlk.out; have cx0 : (w3.setCell ⟨wr.heap.size, 0, none⟩ (.string (bs q1))).cell? ⟨Bx, 0, none⟩ = some (.string gs) := cell_of_row _ Bx 0 _ _ _ hk3; have cx1 : (w3.setCell ⟨wr.heap.size, 0, none⟩ (.string (bs q1))).cell? ⟨Bx, 1, none⟩ = some (.bool true) := cell_of_row _ Bx 1 _ _ _ hk3; have HT3 := Lib.hid ht3; have HR3 := Lib.hid (HT.out.below (hBt.trans ((HG.out.trans ht3).below (B := w.heap.size) (by omega) (by omega) (by omega))) (Nat.le_refl _)); clear hb31 hb32 hs2 ht3 hk3))
            have hg9 : Two wr.heap.size (wr.heap.size + 1) W' (w9.setCell ⟨wr.heap.size + 1, 0, none⟩ (.string (bs q2))) := HT3.out.trans (Two.of2 (grownBy_set (grown_of_below hb9 _)))
            refine ⟨hg9.keeps (by omega) (by omega), kpTwo_two hg9 hzG, ?_, ?_, HG.out.trans hg9⟩
            · rw [HF1.out, HJoin1.out]
              exact Boxed.other (show Boxed w9 wr.heap.size 9 (.string (bs q1)) from (hb9.block _ HS1.out.lt).trans HS1.out) (by omega) _
            · rw [HF2.out]
              exact hb9x.set _
        case doneB =>
          rintro D xs W' hD rfl ⟨hbx1, hbx2, hG⟩ hK
          rw [HUp1.out M (Nat.le_refl _), Nat.sub_self, List.drop_zero] at hbx1
          rw [HUp2.out M (Nat.le_refl _), Nat.sub_self, List.drop_zero] at hbx2
          have cb1 := hbx1.cell
          have cb2 := hbx2.cell
          have HK := Lib.hid hK
          have HAllw := Lib.hid (hBt.trans (hG.below (B := w.heap.size) (by omega) (by omega) (by omega)))
          have hzG := hG.size
          clear hK hG hbx1 hbx2 HUp1 HUp2 hcells
          generalize up1 way old = U1 at *
          generalize upB way old = U2 at *
          have HBe1 := Lib.hid (show ((bs U1).toList == (bs old).toList) = (U1 == old) by rw [bs_toList, bs_toList])
          have HBe2 := Lib.hid (show ((bs U2).toList == (bs root).toList) = (U2 == root) by rw [bs_toList, bs_toList])
          by_cases hR0 : RL = 0
          · have dR : (((RL : Nat) : Int) == 0) = true := by simp [hR0]
            rw [show decide (RL = 0) = true from by simp [hR0], Bool.true_and] at HRes
            clear hR0
            cases hq : (U1 == old)
            · have hq1 : ((bs U1).toList == (bs old).toList) = false := by rw [HBe1.out, hq]
              rw [hq] at HRes
              clear hq HBe1
              go_wp2
              have hKD := HK.out
              refine leaves_marks (B := w.heap.size) [D] W' ⟨by simp, fun D' hD' => ?_⟩ fun W9 hb' _ => ?_
              · rw [List.mem_singleton.1 hD']
                exact ⟨by omega, hKD⟩
              · exact ⟨_, results_tmp rfl _ _ _, by rw [HRes.out]; rfl, HAllw.out.trans hb'⟩
            · have hq1 : ((bs U1).toList == (bs old).toList) = true := by rw [HBe1.out, hq]
              rw [hq] at HRes
              clear hq HBe1
              go_wp2
              have hKD := HK.out
              refine leaves_marks (B := w.heap.size) [D] W' ⟨by simp, fun D' hD' => ?_⟩ fun W9 hb' _ => ?_
              · rw [List.mem_singleton.1 hD']
                exact ⟨by omega, hKD⟩
              · exact ⟨_, results_tmp rfl _ _ _, by rw [HRes.out, ← HBe2.out]; rfl, HAllw.out.trans hb'⟩
          · have dR : (((RL : Nat) : Int) == 0) = false := by simp; omega
            rw [show decide (RL = 0) = false from by simp [hR0], Bool.false_and] at HRes
            clear hR0
            go_wp2
            have hKD := HK.out
            refine leaves_marks (B := w.heap.size) [D] W' ⟨by simp, fun D' hD' => ?_⟩ fun W9 hb' _ => ?_
            · rw [List.mem_singleton.1 hD']
              exact ⟨by omega, hKD⟩
            · exact ⟨_, results_tmp rfl _ _ _, by rw [HRes.out]; rfl, HAllw.out.trans hb'⟩
end Go.Proofs.YteemhemnkdgehaaDoor
