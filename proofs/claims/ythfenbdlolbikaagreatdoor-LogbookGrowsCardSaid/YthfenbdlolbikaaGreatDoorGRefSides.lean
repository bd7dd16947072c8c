/- The reference's Sides: the strings that are hashed for the two roots of an extension. -/
import Derived.Test.YthfenbdlolbikaaGreatDoorGRefWay
import Derived.Test.YthfenbdlolbikaaGreatDoorGContent
set_option linter.unusedVariables false
set_option linter.unusedSimpArgs false
namespace Go.Proofs.YthfenbdlolbikaaGreatDoor
open Go.RowKit Go.Shelf

theorem sides3R_len (old : Bytes) (p : List Bytes) : ∀ (m n : Nat) (whole : Bool), (sides3R old p m n whole).1.length ≤ 2 * p.length ∧ (old.length ≤ 1000 → (∀ x ∈ p, x.length ≤ 1000) → (sides3R old p m n whole).2.1.length ≤ 1000 ∧ (sides3R old p m n whole).2.2.length ≤ 1000) := by
  induction p with
  | nil => intro m n whole; exact ⟨by simp [sides3R], fun h _ => ⟨h, h⟩⟩
  | cons x t ih =>
    intro m n whole
    unfold sides3R
    split
    · refine ⟨by simp, fun h hp => ?_⟩
      cases whole
      · have h1 : ((x :: t).getLastD []).length ≤ 1000 := by
          rw [List.getLastD_eq_getLast?, List.getLast?_eq_some_getLast (by simp)]
          exact hp _ (List.getLast_mem _)
        exact ⟨h1, h1⟩
      · exact ⟨h, h⟩
    · split
      · refine ⟨by simp only [List.length_cons, List.length_append, List.length_nil]; have := (ih m (leftN n) whole).1; omega, fun h hp => ⟨((ih m (leftN n) whole).2 h (fun y hy => hp y (by simp [hy]))).1, ?_⟩⟩
        show (nodeB _ _).length ≤ 1000
        rw [nodeB_length]; omega
      · refine ⟨by simp only [List.length_cons, List.length_append, List.length_nil]; have := (ih (m - leftN n) (n - leftN n) false).1; omega, fun _ _ => ⟨?_, ?_⟩⟩
        · show (nodeB _ _).length ≤ 1000
          rw [nodeB_length]; omega
        · show (nodeB _ _).length ≤ 1000
          rw [nodeB_length]; omega
theorem sides3R_el (old : Bytes) (ho : old.length ≤ 1000) (p : List Bytes) (hp : ∀ x ∈ p, x.length ≤ 1000) : ∀ (m n : Nat) (whole : Bool), ∀ x ∈ (sides3R old p m n whole).1, x.length ≤ 1000000 := by
  induction p with
  | nil => intro m n whole x hx; simp [sides3R] at hx
  | cons y t ih =>
    have hp' : ∀ x ∈ t, x.length ≤ 1000 := fun x hx => hp x (by simp [hx])
    have hy := hp y (by simp)
    intro m n whole x hx
    unfold sides3R at hx
    split at hx
    · simp at hx
    · split at hx
      · have hl := (sides3R_len old t m (leftN n) whole).2 ho hp'
        rcases List.mem_append.1 hx with hx | hx
        · exact ih hp' _ _ _ x hx
        · simp only [List.mem_singleton] at hx
          rw [hx, List.length_cons, List.length_append]; omega
      · have hl := (sides3R_len old t (m - leftN n) (n - leftN n) false).2 ho hp'
        rcases List.mem_append.1 hx with hx | hx
        · exact ih hp' _ _ _ x hx
        · simp only [List.mem_cons, List.not_mem_nil, or_false] at hx
          rcases hx with hx | hx <;> (rw [hx, List.length_cons, List.length_append]; omega)
set_option maxRecDepth 100000 in
set_option maxHeartbeats 2000000 in
theorem refSides_any (old : Bytes) (ho : old.length ≤ 1000) : ∀ (q : List Bytes) (m n : Nat) (whole : Bool) (v : Value) (w : World), 1 ≤ m → m ≤ 9223372036854775807 → n ≤ 9223372036854775807 → (∀ x ∈ q, x.length ≤ 1000) → q.length ≤ 1000000 → StrsAt w.heap.size w v q.reverse →
    Calls Tryz.prog 30 #[.string (bs old), .int .i64 m, .int .i64 n, v, .bool whole] w fun e w' => ∃ rv, e = .returned (.tuple #[rv, .string (bs (sides3R old q m n whole).2.1), .string (bs (sides3R old q m n whole).2.2)]) ∧ OwnS w.heap.size w' rv (sides3R old q m n whole).1 ∧ Below w.heap.size w w'
  | q, m, n, whole, v, w, hm1, hm, hn, hq, hql, hL => by
    obtain ⟨a, c, rfl, hlc, hcm⟩ := hL.shape
    unfold maxLen at hcm
    by_cases hstop : n ≤ m ∨ q = []
    · cases q with
      | nil =>
        have HW1 : Hid ((sides3R old [] m n whole).1 = []) := rfl
        have HW2 : Hid (bs (sides3R old [] m n whole).2.1 = bs old) := rfl
        have HW3 : Hid (bs (sides3R old [] m n whole).2.2 = bs old) := rfl
        generalize bs old = O at *
        rw [show ([] : List Bytes).reverse.length = 0 from rfl]
        clear hL hq hstop
        cases whole
        all_goals
          by_cases hd : n ≤ m
          all_goals
            go_enter Tryz.func30, Tryz.ntmps30
            go_wp2
            go_ret3
            exact ⟨_, by rw [HW2.out, HW3.out]; rfl, by rw [HW1.out]; exact OwnS.nil _ _, Below.refl _ _⟩
      | cons x t =>
        have hnm : n ≤ m := by rcases hstop with h | h; exact h; cases h
        have HW : Hid (sides3R old (x :: t) m n whole = ([], if whole then old else (x :: t).getLastD [], if whole then old else (x :: t).getLastD [])) := by show _ = _; rw [sides3R, if_pos hnm]
        have hd : decide ((n : Int) ≤ (m : Int)) = true := by simp; omega
        have hM0 : (((x :: t).reverse.length : Int) == 0) = false := by first | (simp; done) | (simp; omega)
        obtain ⟨b, off, ha, hb, hcl⟩ := hL.at 0 (by simp)
        have hl0 : (x :: t).reverse.getD 0 [] = (x :: t).getLastD [] := by rw [List.getD_eq_getElem?_getD, List.getLastD_eq_getLast?, ← List.head?_reverse, List.head?_eq_getElem?]
        rw [hl0] at hcl
        have hMp : 0 < (x :: t).reverse.length := by simp
        have hcl' : w.cell? ⟨b, off, none⟩ = _ := hcl
        subst ha
        clear hL hq hstop hl0
        generalize (x :: t).getLastD [] = y at *
        generalize (x :: t).reverse.length = M at *
        have HW1 : Hid ((sides3R old (x :: t) m n whole).1 = []) := by show _ = _; rw [HW.out]
        have HW2 : Hid (bs (sides3R old (x :: t) m n whole).2.1 = if whole then bs old else bs y) := by show _ = _; rw [HW.out]; cases whole <;> rfl
        have HW3 : Hid (bs (sides3R old (x :: t) m n whole).2.2 = if whole then bs old else bs y) := by show _ = _; rw [HW.out]; cases whole <;> rfl
        clear HW
        generalize bs y = Y at *
        generalize bs old = O at *
        cases whole
        · go_enter Tryz.func30, Tryz.ntmps30
          go_wp2
          go_quiet (fail)
          go_wp2
          go_ret3
          exact ⟨_, by rw [HW2.out, HW3.out]; rfl, by rw [HW1.out]; exact OwnS.nil _ _, below_drewN0 (Below.refl _ _) _⟩
        · go_enter Tryz.func30, Tryz.ntmps30
          go_wp2
          go_ret3
          exact ⟨_, by rw [HW2.out, HW3.out]; rfl, by rw [HW1.out]; exact OwnS.nil _ _, Below.refl _ _⟩
    · obtain ⟨x, t, rfl⟩ : ∃ x t, q = x :: t := by
        cases q with
        | nil => exact absurd (.inr rfl) hstop
        | cons x t => exact ⟨x, t, rfl⟩
      have hnm : m < n := by have : ¬ n ≤ m := fun h => hstop (.inl h); omega
      have hn2 : 2 ≤ n := by omega
      have hlb := leftN_bd hn2
      have HW : Hid (sides3R old (x :: t) m n whole = if m ≤ leftN n then ((sides3R old t m (leftN n) whole).1 ++ [1 :: ((sides3R old t m (leftN n) whole).2.2 ++ x)], (sides3R old t m (leftN n) whole).2.1, nodeB (sides3R old t m (leftN n) whole).2.2 x)
          else ((sides3R old t (m - leftN n) (n - leftN n) false).1 ++ [1 :: (x ++ (sides3R old t (m - leftN n) (n - leftN n) false).2.1), 1 :: (x ++ (sides3R old t (m - leftN n) (n - leftN n) false).2.2)], nodeB x (sides3R old t (m - leftN n) (n - leftN n) false).2.1, nodeB x (sides3R old t (m - leftN n) (n - leftN n) false).2.2)) := by
        show _ = _
        rw [sides3R, if_neg (by omega)]
      rw [List.reverse_cons] at hL hlc ⊢
      obtain ⟨b, off, ha, hb, hcl⟩ := hL.lastCell
      subst ha
      have hTk := hL.take t.reverse.length (by simp)
      rw [List.take_left] at hTk
      have hlen : (t.reverse ++ [x]).length = t.length + 1 := by simp
      rw [hlen] at hL hlc ⊢
      have htl : t.reverse.length = t.length := by simp
      rw [htl] at hcl hTk
      have hxs : (bs x).size ≤ 1000 := by rw [bs_size]; exact hq x (by simp)
      have hql' : t.length ≤ 1000000 := by simp at hql; omega
      have HNd := Lib.hid (fun (y : Bytes) (hy : y.length ≤ 1000) W (hW : Below w.heap.size w W) => And.intro (refNode_any (bs y) (bs x) W (by rw [bs_size]; omega) (by omega)) (refNode_any (bs x) (bs y) W (by omega) (by rw [bs_size]; omega)))
      have HX1 := Lib.hid (bs_list x)
      have HLt := Lib.hid (fun W => refLeft_any n W hn2 hn)
      generalize leftN n = K at *
      have hrec : ∀ (m' n' : Nat) (wh : Bool), 1 ≤ m' → m' ≤ m → n' ≤ n → ∀ W, Below w.heap.size w W → Calls Tryz.prog 30 #[.string (bs old), .int .i64 m', .int .i64 n', .slice (some ⟨b, off, none⟩) t.length c, .bool wh] W fun e w' => ∃ rv, e = .returned (.tuple #[rv, .string (bs (sides3R old t m' n' wh).2.1), .string (bs (sides3R old t m' n' wh).2.2)]) ∧ OwnS W.heap.size w' rv (sides3R old t m' n' wh).1 ∧ Below W.heap.size W w' :=
        fun m' n' wh h0 h1 h2 W hW => refSides_any old ho t m' n' wh _ W h0 (by omega) (by omega) (fun y hy => hq y (by simp [hy])) hql' (hTk.later hW (Nat.le_refl _))
      have HRec := Lib.hid hrec
      have HWl := Lib.hid (fun m' n' wh => And.intro (sides3R_len old t m' n' wh).1 ((sides3R_len old t m' n' wh).2 ho (fun y hy => hq y (by simp [hy]))))
      clear hL hq hTk hrec hstop hlen htl hql
      generalize t.length = N at *
      obtain ⟨M, hM⟩ : ∃ M, M = N + 1 := ⟨_, rfl⟩
      rw [← hM] at hlc ⊢
      have hM0 : (((M : Nat) : Int) == 0) = false := by simp; omega
      have d1 : decide ((n : Int) ≤ (m : Int)) = false := by simp; omega
      have w1 : IntKind.i64.wrap ((M : Int) - 1) = (M : Int) - 1 := IntWalk.i64_in _ (by omega)
      have z1 : 1 ≤ (M : Int) := by omega
      have y1 : 0 ≤ (M : Int) - 1 := by omega
      have l1 : (M : Int) - 1 < (M : Int) := by omega
      have t1 : ((M : Int) - 1).toNat = N := by omega
      have k1 : (M : Int) - 1 ≤ (c : Int) := by omega
      have HM := Lib.hid hM
      clear hM
      generalize bs old = O at *
      by_cases hik : m ≤ K
      · rw [if_pos hik] at HW
        have d2 : decide ((m : Int) ≤ (K : Int)) = true := by simp; omega
        have HR := Lib.hid (HRec.out m K whole hm1 (Nat.le_refl _) (by omega) _ ((Below.refl _ w)))
        have hyl := (HWl.out m K whole).2
        have hll := (HWl.out m K whole).1
        clear HRec HWl
        generalize (sides3R old t m K whole).2.1 = z at *
        generalize (sides3R old t m K whole).2.2 = y at *
        generalize (sides3R old t m K whole).1 = l at *
        have HC : Hid ((⟨#[1]⟩ : ByteArray) ++ bs y ++ bs x = bs (1 :: (y ++ x))) := by show _ = _; rw [cat_bs1, cat_bs]; rfl
        have hys : (bs y).size ≤ 1000 := by rw [bs_size]; exact hyl.2
        have HNd' := Lib.hid (fun W hW => (HNd.out y hyl.2 W hW).1)
        rw [bs_list, bs_list] at HNd'
        have HOw := Lib.hid (fun W (h : w.heap.size ≤ W.heap.size) => ownS_lit W w.heap.size (1 :: (y ++ x)) h)
        rw [← HC.out] at HOw
        generalize hYY : bs y = Y at *
        generalize hXX : bs x = X at *
        have hno1 : ¬ (9223372036854775807 < (⟨#[1]⟩ : ByteArray).size + Y.size) := by show ¬ (_ < 1 + _); omega
        have hno2 : ¬ (9223372036854775807 < ((⟨#[1]⟩ : ByteArray) ++ Y).size + X.size) := by rw [ByteArray.size_append]; show ¬ (_ < 1 + _ + _); omega
        have hno3 : ¬ (9223372036854775807 < (⟨#[1]⟩ : ByteArray).size + X.size) := by show ¬ (_ < 1 + _); omega
        have hno4 : ¬ (9223372036854775807 < ((⟨#[1]⟩ : ByteArray) ++ X).size + Y.size) := by rw [ByteArray.size_append]; show ¬ (_ < 1 + _ + _); omega
        have hno5 : ¬ (9223372036854775807 < 1 + Y.size) := by omega
        have hno6 : ¬ (9223372036854775807 < 1 + X.size) := by omega
        have hno7 : ¬ (9223372036854775807 < 1 + Y.size + X.size) := by omega
        have hno8 : ¬ (9223372036854775807 < 1 + X.size + Y.size) := by omega
        clear HNd HX1 hYY hXX
        generalize hZZ : bs z = Z at *
        have HZ := Lib.hid hZZ
        clear hZZ
        go_enter Tryz.func30, Tryz.ntmps30
        go_wp2_with (go_at_call 61; refine (HLt.out _).mono ?_; rintro e w' ⟨rfl, rfl⟩)
        refine HR.out.mono ?_
        rintro e w2 ⟨rv, rfl, hO, hb2⟩
        have hz2 := hb2.size
        have HO := Lib.hid hO
        have HB2 := Lib.hid hb2
        clear hO HR hb2
        go_wp2_with (first
          | (at_builtin; refine append_SS rfl _ _ rfl w.heap.size w.heap.size rv _ l _ rfl rfl (World.ownsRow.alloc HO.out _) (HOw.out _ hz2) (by simp; omega) (by simp; omega) w (HB2.out.alloc hz2 _) ?_; intro v5 w3 hO3 hg3 hb3; have HO3 := Lib.hid hO3; clear hO3)
          | (go_at_call 62; refine (HNd'.out _ hb3).mono ?_; rintro e w4 ⟨rfl, hb4⟩))
        go_ret3
        exact ⟨_, by rw [HW.out, ← HZ.out]; rfl, by rw [HW.out]; exact HO3.out.below hb4 (Nat.le_refl _), hb3.trans (hb4.mono hb3.size)⟩
      · rw [if_neg hik] at HW
        have d2 : decide ((m : Int) ≤ (K : Int)) = false := by simp; omega
        have w2' : IntKind.i64.wrap ((n : Int) - (K : Int)) = ((n - K : Nat) : Int) := by rw [IntWalk.i64_in _ (by omega)]; omega
        have w3' : IntKind.i64.wrap ((m : Int) - (K : Int)) = ((m - K : Nat) : Int) := by rw [IntWalk.i64_in _ (by omega)]; omega
        have HR := Lib.hid (HRec.out (m - K) (n - K) false (by omega) (by omega) (by omega) _ ((Below.refl _ w)))
        have hyl := (HWl.out (m - K) (n - K) false).2
        have hll := (HWl.out (m - K) (n - K) false).1
        clear HRec HWl
        generalize (sides3R old t (m - K) (n - K) false).2.1 = z at *
        generalize (sides3R old t (m - K) (n - K) false).2.2 = y at *
        generalize (sides3R old t (m - K) (n - K) false).1 = l at *
        generalize n - K = n' at *
        generalize m - K = m' at *
        have HC : Hid ((⟨#[1]⟩ : ByteArray) ++ bs x ++ bs y = bs (1 :: (x ++ y))) := by show _ = _; rw [cat_bs1, cat_bs]; rfl
        have HCz : Hid ((⟨#[1]⟩ : ByteArray) ++ bs x ++ bs z = bs (1 :: (x ++ z))) := by show _ = _; rw [cat_bs1, cat_bs]; rfl
        have hys : (bs y).size ≤ 1000 := by rw [bs_size]; exact hyl.2
        have hzs : (bs z).size ≤ 1000 := by rw [bs_size]; exact hyl.1
        have HNd' := Lib.hid (fun W hW => (HNd.out y hyl.2 W hW).2)
        rw [bs_list, bs_list] at HNd'
        have HNz' := Lib.hid (fun W hW => (HNd.out z hyl.1 W hW).2)
        rw [bs_list, bs_list] at HNz'
        have HOw := Lib.hid (fun W (h : w.heap.size ≤ W.heap.size) => ownS_lit2 W w.heap.size (1 :: (x ++ z)) (1 :: (x ++ y)) h)
        rw [← HC.out, ← HCz.out] at HOw
        generalize hYY : bs y = Y at *
        generalize hZZ : bs z = Z at *
        generalize hXX : bs x = X at *
        have hno1 : ¬ (9223372036854775807 < (⟨#[1]⟩ : ByteArray).size + Y.size) := by show ¬ (_ < 1 + _); omega
        have hno2 : ¬ (9223372036854775807 < ((⟨#[1]⟩ : ByteArray) ++ Y).size + X.size) := by rw [ByteArray.size_append]; show ¬ (_ < 1 + _ + _); omega
        have hno3 : ¬ (9223372036854775807 < (⟨#[1]⟩ : ByteArray).size + X.size) := by show ¬ (_ < 1 + _); omega
        have hno4 : ¬ (9223372036854775807 < ((⟨#[1]⟩ : ByteArray) ++ X).size + Y.size) := by rw [ByteArray.size_append]; show ¬ (_ < 1 + _ + _); omega
        have hno5 : ¬ (9223372036854775807 < 1 + Y.size) := by omega
        have hno6 : ¬ (9223372036854775807 < 1 + X.size) := by omega
        have hno7 : ¬ (9223372036854775807 < 1 + Y.size + X.size) := by omega
        have hno8 : ¬ (9223372036854775807 < 1 + X.size + Y.size) := by omega
        have hnz2 : ¬ (9223372036854775807 < ((⟨#[1]⟩ : ByteArray) ++ X).size + Z.size) := by rw [ByteArray.size_append]; show ¬ (_ < 1 + _ + _); omega
        have hnz6 : ¬ (9223372036854775807 < 1 + X.size + Z.size) := by omega
        clear HNd HX1 hYY hXX hZZ
        go_enter Tryz.func30, Tryz.ntmps30
        go_wp2_with (go_at_call 61; refine (HLt.out _).mono ?_; rintro e w' ⟨rfl, rfl⟩)
        refine HR.out.mono ?_
        rintro e w2 ⟨rv, rfl, hO, hb2⟩
        have hz2 := hb2.size
        have HO := Lib.hid hO
        have HB2 := Lib.hid hb2
        clear hO HR hb2
        go_wp2_with (at_builtin; refine append_SS rfl _ _ rfl w.heap.size w.heap.size rv _ l _ rfl rfl (World.ownsRow.alloc HO.out _) (HOw.out _ hz2) (by simp; omega) (by simp; omega) w (HB2.out.alloc hz2 _) ?_; intro v5 w3 hO3 hg3 hb3; have HO3 := Lib.hid hO3; clear hO3)
        refine (HNz'.out _ hb3).mono ?_
        rintro e w4 ⟨rfl, hb4⟩
        go_wp2_with fail
        refine (HNd'.out _ (hb3.trans (hb4.mono hb3.size))).mono ?_
        rintro e w5 ⟨rfl, hb5⟩
        go_wp2
        go_ret3
        exact ⟨_, by rw [HW.out]; rfl, by rw [HW.out]; exact (HO3.out.below hb4 (Nat.le_refl _)).below hb5 (Nat.le_refl _), (hb3.trans (hb4.mono hb3.size)).trans (hb5.mono (hb3.trans (hb4.mono hb3.size)).size)⟩
end Go.Proofs.YthfenbdlolbikaaGreatDoor
