/- The reference's Way: the strings that are hashed for a proof that was accepted. -/
import Derived.Test.YthfenbdlolbikaaDoorDMore
set_option linter.unusedVariables false
set_option linter.unusedSimpArgs false
namespace Go.Proofs.YthfenbdlolbikaaDoor
open Go.RowKit Go.Shelf

/-- The way, the last string last. -/
def wayF (q : List Bytes) (n i : Nat) (s : Bytes) : List Bytes × Bytes := ((wayR q n i s).1.reverse, (wayR q n i s).2)
theorem wayF_step (x : Bytes) (t : List Bytes) (n i : Nat) (s : Bytes) (h : 2 ≤ n) : wayF (x :: t) n i s = if i < leftN n then ((wayF t (leftN n) i s).1 ++ [1 :: ((wayF t (leftN n) i s).2 ++ x)], nodeB (wayF t (leftN n) i s).2 x)
          else ((wayF t (n - leftN n) (i - leftN n) s).1 ++ [1 :: (x ++ (wayF t (n - leftN n) (i - leftN n) s).2)], nodeB x (wayF t (n - leftN n) (i - leftN n) s).2) := by
  unfold wayF
  rw [wayR, if_neg (by omega)]
  split <;> simp
theorem wayF_len (q : List Bytes) (n i : Nat) (s : Bytes) : (wayF q n i s).1.length ≤ q.length + 1 ∧ (wayF q n i s).2.length = 32 := by
  have := wayR_len q n i s
  unfold wayF
  simpa using this
set_option maxRecDepth 100000 in
set_option maxHeartbeats 2000000 in
theorem refWay_any : ∀ (q : List Bytes) (n i : Nat) (s : Bytes) (v : Value) (w : World), n ≤ 9223372036854775807 → i ≤ 9223372036854775807 → s.length ≤ 1000 → (∀ x ∈ q, x.length ≤ 1000) → q.length ≤ 1000000 → StrsAt w.heap.size w v q.reverse →
    Calls Tryd.prog 33 #[.int .i64 n, .int .i64 i, .string (bs s), v] w fun e w' => ∃ rv, e = .returned (.tuple #[rv, .string (bs (wayF q n i s).2)]) ∧ OwnS w.heap.size w' rv (wayF q n i s).1 ∧ Below w.heap.size w w'
  | q, n, i, s, v, w, hn, hi, hs, hq, hql, hL => by
    obtain ⟨a, c, rfl, hlc, hcm⟩ := hL.shape
    unfold maxLen at hcm
    have hss : (bs s).size ≤ 1000 := by rw [bs_size]; exact hs
    by_cases hstop : n ≤ 1 ∨ q = []
    · have HW : Hid (wayF q n i s = ([0 :: s], leafB s)) := by
        show _ = _
        rcases hstop with h | h
        · cases q with
          | nil => rfl
          | cons x t => unfold wayF wayR; rw [if_pos h]; rfl
        · subst h; rfl
      have hno : ¬ (9223372036854775807 < (⟨#[0]⟩ : ByteArray).size + (bs s).size) := by show ¬ (_ < 1 + _); omega
      have hno' : ¬ (9223372036854775807 < 1 + (bs s).size) := by omega
      have HC := Lib.hid (cat_bs1 0 s)
      have HLf := Lib.hid (fun W (hW : Below w.heap.size w W) => refLeaf_any (bs s) W (by omega))
      rw [bs_list] at HLf
      have HL := Lib.hid hL
      have HSt : Hid (decide ((n : Int) ≤ 1) = false → (((q.reverse.length : Nat) : Int) == 0) = true) := fun h => by
        rcases hstop with h' | h'
        · exfalso; simp at h; omega
        · subst h'; rfl
      clear hL hq hstop
      generalize q.reverse.length = M at *
      cases hd : decide ((n : Int) ≤ 1)
      · have he := HSt.out hd
        go_enter Tryd.func33, Tryd.ntmps33
        go_wp2_with (go_at_call 39; refine (HLf.out _ ((Below.refl _ _).alloc (Nat.le_refl _) _)).mono ?_; rintro e w2 ⟨rfl, hb2⟩)
        go_ret2
        refine ⟨_, by rw [HW.out]; rfl, ?_, ((Below.refl _ _).alloc (Nat.le_refl _) _).trans (hb2.mono (by simp))⟩
        rw [HW.out, HC.out] at *
        exact (ownS_lit w w.heap.size (0 :: s) (Nat.le_refl _)).below hb2 (Nat.le_refl _)
      · go_enter Tryd.func33, Tryd.ntmps33
        go_wp2_with (go_at_call 39; refine (HLf.out _ ((Below.refl _ _).alloc (Nat.le_refl _) _)).mono ?_; rintro e w2 ⟨rfl, hb2⟩)
        go_ret2
        refine ⟨_, by rw [HW.out]; rfl, ?_, ((Below.refl _ _).alloc (Nat.le_refl _) _).trans (hb2.mono (by simp))⟩
        rw [HW.out, HC.out] at *
        exact (ownS_lit w w.heap.size (0 :: s) (Nat.le_refl _)).below hb2 (Nat.le_refl _)
    · obtain ⟨x, t, rfl⟩ : ∃ x t, q = x :: t := by
        cases q with
        | nil => exact absurd (.inr rfl) hstop
        | cons x t => exact ⟨x, t, rfl⟩
      have hn2 : 2 ≤ n := by have : ¬ n ≤ 1 := fun h => hstop (.inl h); omega
      have hlb := leftN_bd hn2
      have HW : Hid (wayF (x :: t) n i s = if i < leftN n then ((wayF t (leftN n) i s).1 ++ [1 :: ((wayF t (leftN n) i s).2 ++ x)], nodeB (wayF t (leftN n) i s).2 x)
          else ((wayF t (n - leftN n) (i - leftN n) s).1 ++ [1 :: (x ++ (wayF t (n - leftN n) (i - leftN n) s).2)], nodeB x (wayF t (n - leftN n) (i - leftN n) s).2)) := by
        show _ = _
        rw [wayF_step x t n i s hn2]
      rw [List.reverse_cons] at hL hlc ⊢
      obtain ⟨b, off, ha, hb, hcl⟩ := hL.lastCell
      subst ha
      have hTk := hL.take t.reverse.length (by simp)
      rw [List.take_left] at hTk
      have hlen : (t.reverse ++ [x]).length = t.length + 1 := by simp
      rw [hlen] at hL hlc ⊢
      have htl : t.reverse.length = t.length := by simp
      rw [htl] at hcl hTk
      have hxs : (bs x).size ≤ 1000 := by rw [bs_size]; exact hq x (by simp)
      have hql' : t.length ≤ 1000000 := by simp at hql; omega
      have HNd := Lib.hid (fun (y : Bytes) (hy : y.length = 32) W (hW : Below w.heap.size w W) => And.intro (refNode_any (bs y) (bs x) W (by rw [bs_size]; omega) (by omega)) (refNode_any (bs x) (bs y) W (by omega) (by rw [bs_size]; omega)))
      have HX1 := Lib.hid (bs_list x)
      have HLt := Lib.hid (fun W => refLeft_any n W hn2 hn)
      generalize leftN n = K at *
      have hrec : ∀ n' i' : Nat, n' ≤ n → i' ≤ i → ∀ W, Below w.heap.size w W → Calls Tryd.prog 33 #[.int .i64 n', .int .i64 i', .string (bs s), .slice (some ⟨b, off, none⟩) t.length c] W fun e w' => ∃ rv, e = .returned (.tuple #[rv, .string (bs (wayF t n' i' s).2)]) ∧ OwnS W.heap.size w' rv (wayF t n' i' s).1 ∧ Below W.heap.size W w' :=
        fun n' i' h1 h2 W hW => refWay_any t n' i' s _ W (by omega) (by omega) hs (fun y hy => hq y (by simp [hy])) hql' (hTk.later hW (Nat.le_refl _))
      have HRec := Lib.hid hrec
      have HWl := Lib.hid (fun n' i' => wayF_len t n' i' s)
      clear hL hq hTk hrec hstop hlen htl hql hs
      generalize t.length = N at *
      obtain ⟨M, hM⟩ : ∃ M, M = N + 1 := ⟨_, rfl⟩
      rw [← hM] at hlc ⊢
      have hM0 : (((M : Nat) : Int) == 0) = false := by simp; omega
      have d1 : decide ((n : Int) ≤ 1) = false := by simp; omega
      have w1 : IntKind.i64.wrap ((M : Int) - 1) = (M : Int) - 1 := IntWalk.i64_in _ (by omega)
      have z1 : 1 ≤ (M : Int) := by omega
      have y1 : 0 ≤ (M : Int) - 1 := by omega
      have l1 : (M : Int) - 1 < (M : Int) := by omega
      have t1 : ((M : Int) - 1).toNat = N := by omega
      have k1 : (M : Int) - 1 ≤ (c : Int) := by omega
      have HM := Lib.hid hM
      clear hM
      by_cases hik : i < K
      · rw [if_pos hik] at HW
        have d2 : decide ((i : Int) < (K : Int)) = true := by simp; omega
        have HR := Lib.hid (HRec.out K i (by omega) (Nat.le_refl _) _ ((Below.refl _ w)))
        have hyl := (HWl.out K i).2
        have hll := (HWl.out K i).1
        clear HRec HWl
        generalize (wayF t K i s).2 = y at *
        generalize (wayF t K i s).1 = l at *
        have HC : Hid ((⟨#[1]⟩ : ByteArray) ++ bs y ++ bs x = bs (1 :: (y ++ x))) := by show _ = _; rw [cat_bs1, cat_bs]; rfl
        have hys : (bs y).size = 32 := by rw [bs_size]; exact hyl
        have HNd' := Lib.hid (fun W hW => (HNd.out y hyl W hW).1)
        rw [bs_list, bs_list] at HNd'
        have HOw := Lib.hid (fun W (h : w.heap.size ≤ W.heap.size) => ownS_lit W w.heap.size (1 :: (y ++ x)) h)
        rw [← HC.out] at HOw
        generalize hYY : bs y = Y at *
        generalize hXX : bs x = X at *
        have hno1 : ¬ (9223372036854775807 < (⟨#[1]⟩ : ByteArray).size + Y.size) := by show ¬ (_ < 1 + _); omega
        have hno2 : ¬ (9223372036854775807 < ((⟨#[1]⟩ : ByteArray) ++ Y).size + X.size) := by rw [ByteArray.size_append]; show ¬ (_ < 1 + _ + _); omega
        have hno3 : ¬ (9223372036854775807 < (⟨#[1]⟩ : ByteArray).size + X.size) := by show ¬ (_ < 1 + _); omega
        have hno4 : ¬ (9223372036854775807 < ((⟨#[1]⟩ : ByteArray) ++ X).size + Y.size) := by rw [ByteArray.size_append]; show ¬ (_ < 1 + _ + _); omega
        have hno5 : ¬ (9223372036854775807 < 1 + Y.size) := by omega
        have hno6 : ¬ (9223372036854775807 < 1 + X.size) := by omega
        have hno7 : ¬ (9223372036854775807 < 1 + Y.size + X.size) := by omega
        have hno8 : ¬ (9223372036854775807 < 1 + X.size + Y.size) := by omega
        clear HNd HX1 hYY hXX
        go_enter Tryd.func33, Tryd.ntmps33
        go_wp2_with (go_at_call 67; refine (HLt.out _).mono ?_; rintro e w' ⟨rfl, rfl⟩)
        refine HR.out.mono ?_
        rintro e w2 ⟨rv, rfl, hO, hb2⟩
        have hz2 := hb2.size
        have HO := Lib.hid hO
        have HB2 := Lib.hid hb2
        clear hO HR hb2
        go_wp2_with (first
          | (at_builtin; refine append_SS rfl _ _ rfl w.heap.size w.heap.size rv _ l _ rfl rfl (World.ownsRow.alloc HO.out _) (HOw.out _ hz2) (by simp; omega) (by simp; omega) w (HB2.out.alloc hz2 _) ?_; intro v5 w3 hO3 hg3 hb3; have HO3 := Lib.hid hO3; clear hO3)
          | (go_at_call 69; refine (HNd'.out _ hb3).mono ?_; rintro e w4 ⟨rfl, hb4⟩))
        go_ret2
        exact ⟨_, by rw [HW.out]; rfl, by rw [HW.out]; exact HO3.out.below hb4 (Nat.le_refl _), hb3.trans (hb4.mono hb3.size)⟩
      · rw [if_neg hik] at HW
        have d2 : decide ((i : Int) < (K : Int)) = false := by simp; omega
        have w2' : IntKind.i64.wrap ((n : Int) - (K : Int)) = ((n - K : Nat) : Int) := by rw [IntWalk.i64_in _ (by omega)]; omega
        have w3' : IntKind.i64.wrap ((i : Int) - (K : Int)) = ((i - K : Nat) : Int) := by rw [IntWalk.i64_in _ (by omega)]; omega
        have HR := Lib.hid (HRec.out (n - K) (i - K) (by omega) (by omega) _ ((Below.refl _ w)))
        have hyl := (HWl.out (n - K) (i - K)).2
        have hll := (HWl.out (n - K) (i - K)).1
        clear HRec HWl
        generalize (wayF t (n - K) (i - K) s).2 = y at *
        generalize (wayF t (n - K) (i - K) s).1 = l at *
        generalize n - K = n' at *
        generalize i - K = i' at *
        have HC : Hid ((⟨#[1]⟩ : ByteArray) ++ bs x ++ bs y = bs (1 :: (x ++ y))) := by show _ = _; rw [cat_bs1, cat_bs]; rfl
        have hys : (bs y).size = 32 := by rw [bs_size]; exact hyl
        have HNd' := Lib.hid (fun W hW => (HNd.out y hyl W hW).2)
        rw [bs_list, bs_list] at HNd'
        have HOw := Lib.hid (fun W (h : w.heap.size ≤ W.heap.size) => ownS_lit W w.heap.size (1 :: (x ++ y)) h)
        rw [← HC.out] at HOw
        generalize hYY : bs y = Y at *
        generalize hXX : bs x = X at *
        have hno1 : ¬ (9223372036854775807 < (⟨#[1]⟩ : ByteArray).size + Y.size) := by show ¬ (_ < 1 + _); omega
        have hno2 : ¬ (9223372036854775807 < ((⟨#[1]⟩ : ByteArray) ++ Y).size + X.size) := by rw [ByteArray.size_append]; show ¬ (_ < 1 + _ + _); omega
        have hno3 : ¬ (9223372036854775807 < (⟨#[1]⟩ : ByteArray).size + X.size) := by show ¬ (_ < 1 + _); omega
        have hno4 : ¬ (9223372036854775807 < ((⟨#[1]⟩ : ByteArray) ++ X).size + Y.size) := by rw [ByteArray.size_append]; show ¬ (_ < 1 + _ + _); omega
        have hno5 : ¬ (9223372036854775807 < 1 + Y.size) := by omega
        have hno6 : ¬ (9223372036854775807 < 1 + X.size) := by omega
        have hno7 : ¬ (9223372036854775807 < 1 + Y.size + X.size) := by omega
        have hno8 : ¬ (9223372036854775807 < 1 + X.size + Y.size) := by omega
        clear HNd HX1 hYY hXX
        go_enter Tryd.func33, Tryd.ntmps33
        go_wp2_with (go_at_call 67; refine (HLt.out _).mono ?_; rintro e w' ⟨rfl, rfl⟩)
        refine HR.out.mono ?_
        rintro e w2 ⟨rv, rfl, hO, hb2⟩
        have hz2 := hb2.size
        have HO := Lib.hid hO
        have HB2 := Lib.hid hb2
        clear hO HR hb2
        go_wp2_with (first
          | (at_builtin; refine append_SS rfl _ _ rfl w.heap.size w.heap.size rv _ l _ rfl rfl (World.ownsRow.alloc HO.out _) (HOw.out _ hz2) (by simp; omega) (by simp; omega) w (HB2.out.alloc hz2 _) ?_; intro v5 w3 hO3 hg3 hb3; have HO3 := Lib.hid hO3; clear hO3)
          | (go_at_call 69; refine (HNd'.out _ hb3).mono ?_; rintro e w4 ⟨rfl, hb4⟩))
        go_ret2
        exact ⟨_, by rw [HW.out]; rfl, by rw [HW.out]; exact HO3.out.below hb4 (Nat.le_refl _), hb3.trans (hb4.mono hb3.size)⟩
end Go.Proofs.YthfenbdlolbikaaDoor
