/- The reference's both and VerifyExtension. -/
import Derived.Test.YthfenbdlolbikaaGreatDoorDRefV
namespace Go.Proofs.YthfenbdlolbikaaGreatDoor
open Go.RowKit Go.Shelf

/-- What both returns. -/
def BothV (old : Bytes) (q : List Bytes) (m n : Nat) (whole : Bool) (A B : ByteArray) (ok : Bool) : Prop :=
  ok = (bothR old q m n whole).isSome ∧ (∀ r, bothR old q m n whole = some r → A = bs r.1 ∧ B = bs r.2) ∧ A.size ≤ 1000 ∧ B.size ≤ 1000
theorem bothV_none {old : Bytes} {q : List Bytes} {m n : Nat} {whole : Bool} {A B : ByteArray} (h : bothR old q m n whole = none) (hA : A.size ≤ 1000) (hB : B.size ≤ 1000) : BothV old q m n whole A B false :=
  ⟨by rw [h]; rfl, fun r hr => (by rw [h] at hr; cases hr), hA, hB⟩
theorem bothV_some {old : Bytes} {q : List Bytes} {m n : Nat} {whole : Bool} {r : Bytes × Bytes} (h : bothR old q m n whole = some r) (hA : r.1.length ≤ 1000) (hB : r.2.length ≤ 1000) : BothV old q m n whole (bs r.1) (bs r.2) true :=
  ⟨by rw [h]; rfl, fun r' hr => (by rw [h] at hr; cases hr; exact ⟨rfl, rfl⟩), by rw [bs_size]; exact hA, by rw [bs_size]; exact hB⟩
set_option maxRecDepth 100000 in
set_option maxHeartbeats 4000000 in
theorem both_any (old : Bytes) (ho : old.length ≤ 1000) : ∀ (q : List Bytes) (m n : Nat) (whole : Bool) (v : Value) (w : World), 1 ≤ m → m ≤ n → n ≤ 9223372036854775807 → (∀ x ∈ q, x.length ≤ 1000) → q.length ≤ 1000000 → StrsAt w.heap.size w v q.reverse →
    Calls Tryz.prog 93 #[.string (bs old), .int .i64 m, .int .i64 n, v, .bool whole] w fun e w' => (∃ A B ok, e = .returned (.tuple #[.string A, .string B, .bool ok]) ∧ BothV old q m n whole A B ok) ∧ Below w.heap.size w w'
  | q, m, n, whole, v, w, hm1, hmn, hn, hq, hql, hL => by
    obtain ⟨a, c, rfl, hlc, hcm⟩ := hL.shape
    unfold maxLen at hcm
    have hos : (bs old).size ≤ 1000 := by rw [bs_size]; exact ho
    have hrl : q.reverse.length = q.length := by simp
    rw [hrl] at hlc hL ⊢
    have wl : IntKind.i64.wrap ((q.length : Int) - 1) = (q.length : Int) - 1 := IntWalk.i64_in _ (by omega)
    by_cases hmn' : m = n
    · cases whole
      · match q, hq, hql, hL, hlc, wl with
        | [], _, _, hL, hlc, wl =>
          have HV : Hid (BothV old [] m n false (⟨#[]⟩ : ByteArray) (⟨#[]⟩ : ByteArray) false) := bothV_none (by unfold bothR; rw [if_neg (by simp)]) (by decide) (by decide)
          subst hmn'
          rw [show ([] : List Bytes).length = 0 from rfl] at wl ⊢
          clear hL
          go_enter Tryz.func93, Tryz.ntmps93
          go_wp2
          go_ret3
          exact ⟨⟨_, _, _, rfl, HV.out⟩, Below.refl _ _⟩
        | [x], hq, _, hL, hlc, wl =>
          have HV : Hid (BothV old [x] m n false (bs x) (bs x) true) := bothV_some (r := (x, x)) (by unfold bothR; rw [if_pos hmn', if_pos ⟨rfl, rfl⟩]) (hq x (by simp)) (hq x (by simp))
          obtain ⟨b, off, rfl, hb, hcl⟩ := hL.at 0 (by simp)
          have hcl' : w.cell? ⟨b, off, none⟩ = some (.string (bs x)) := hcl
          subst hmn'
          rw [show [x].length = 1 from rfl] at wl ⊢
          clear hL
          generalize bs x = X at *
          go_enter Tryz.func93, Tryz.ntmps93
          go_wp2
          go_quiet (fail)
          go_wp2
          go_ret3
          exact ⟨⟨_, _, _, rfl, HV.out⟩, below_drewN0 (Below.refl _ _) _⟩
        | x :: y :: t, _, hql, hL, hlc, wl =>
          have HV : Hid (BothV old (x :: y :: t) m n false (⟨#[]⟩ : ByteArray) (⟨#[]⟩ : ByteArray) false) := bothV_none (by unfold bothR; rw [if_pos hmn', if_neg (by simp)]) (by decide) (by decide)
          subst hmn'
          clear hL
          have hM2 : 2 ≤ (x :: y :: t).length := by simp
          generalize (x :: y :: t).length = M at *
          have hne : (((M : Int) - 1) != 0) = true := by simp; omega
          have hne2 : ¬ ((M : Int) - 1 = 0) := by omega
          go_enter Tryz.func93, Tryz.ntmps93
          go_wp2
          go_ret3
          exact ⟨⟨_, _, _, rfl, HV.out⟩, Below.refl _ _⟩
      · cases q with
        | nil =>
          have HV : Hid (BothV old [] m n true (bs old) (bs old) true) := bothV_some (r := (old, old)) (by unfold bothR; rw [if_pos ⟨hmn', rfl⟩]) ho ho
          subst hmn'
          rw [show ([] : List Bytes).length = 0 from rfl] at wl ⊢
          clear hL
          generalize bs old = O at *
          go_enter Tryz.func93, Tryz.ntmps93
          go_wp2
          go_ret3
          exact ⟨⟨_, _, _, rfl, HV.out⟩, Below.refl _ _⟩
        | cons x t =>
          have HV : Hid (BothV old (x :: t) m n true (bs old) (bs old) false) := bothV_none (by unfold bothR; rw [if_pos hmn', if_neg (by simp)]) hos hos
          subst hmn'
          clear hL
          have hM1 : 1 ≤ (x :: t).length := by simp
          generalize (x :: t).length = M at *
          have hM0 : decide ((M : Int) < 1) = false := by simp; omega
          have hM0' : decide ((M : Int) - 1 < 0) = false := by simp; omega
          generalize bs old = O at *
          go_enter Tryz.func93, Tryz.ntmps93
          go_wp2
          go_ret3
          exact ⟨⟨_, _, _, rfl, HV.out⟩, Below.refl _ _⟩
    · have hn2 : 2 ≤ n := by omega
      have dmn : ((m : Int) == (n : Int)) = false := by simp; omega
      have dmn2 : (m == n) = false := by simp; omega
      cases q with
      | nil =>
        have HV : Hid (BothV old [] m n whole (⟨#[]⟩ : ByteArray) (⟨#[]⟩ : ByteArray) false) := bothV_none (by unfold bothR; rw [if_neg (fun h => hmn' h.1)]) (by decide) (by decide)
        rw [show ([] : List Bytes).length = 0 from rfl] at wl ⊢
        clear hL
        generalize bs old = O at *
        go_enter Tryz.func93, Tryz.ntmps93
        go_wp2
        go_ret3
        exact ⟨⟨_, _, _, rfl, HV.out⟩, Below.refl _ _⟩
      | cons x t =>
        have hlb := leftN_bd hn2
        rw [List.reverse_cons] at hL
        obtain ⟨b, off, ha, hb, hcl⟩ := hL.lastCell
        subst ha
        have hTk := hL.take t.reverse.length (by simp)
        rw [List.take_left] at hTk
        have htl : t.reverse.length = t.length := by simp
        rw [htl] at hcl hTk
        have hxs : x.length ≤ 1000 := hq x (by simp)
        have hlen : (x :: t).length = t.length + 1 := rfl
        rw [hlen] at hlc hL hql wl ⊢
        have HV1 : Hid (m ≤ leftN n → ∀ A B ok, BothV old t m (leftN n) whole A B ok → BothV old (x :: t) m n whole A (bs (nodeB B.data.toList x)) ok) := fun h A B ok hv => by
          obtain ⟨h1, h2, h3, h4⟩ := hv
          unfold BothV
          rw [bothR_cons hmn', if_pos h]
          refine ⟨by rw [h1]; cases bothR old t m (leftN n) whole <;> rfl, fun r hr => ?_, h3, by rw [bs_size, nodeB_length]; omega⟩
          obtain ⟨r', hr', rfl⟩ := Option.map_eq_some_iff.1 hr
          obtain ⟨g1, g2⟩ := h2 r' hr'
          exact ⟨g1, by rw [g2, bs_list]⟩
        have HV2 : Hid (¬ m ≤ leftN n → ∀ A B ok, BothV old t (m - leftN n) (n - leftN n) false A B ok → BothV old (x :: t) m n whole (bs (nodeB x A.data.toList)) (bs (nodeB x B.data.toList)) ok) := fun h A B ok hv => by
          obtain ⟨h1, h2, h3, h4⟩ := hv
          unfold BothV
          rw [bothR_cons hmn', if_neg h]
          refine ⟨by rw [h1]; cases bothR old t (m - leftN n) (n - leftN n) false <;> rfl, fun r hr => ?_, by rw [bs_size, nodeB_length]; omega, by rw [bs_size, nodeB_length]; omega⟩
          obtain ⟨r', hr', rfl⟩ := Option.map_eq_some_iff.1 hr
          obtain ⟨g1, g2⟩ := h2 r' hr'
          exact ⟨by rw [g1, bs_list], by rw [g2, bs_list]⟩
        have HRec := Lib.hid (fun (m' n' : Nat) (wh : Bool) (h0 : 1 ≤ m') (h1 : m' ≤ n') (h2 : n' ≤ n) => both_any old ho t m' n' wh _ w h0 h1 (by omega) (fun y hy => hq y (by simp [hy])) (by omega) hTk)
        have HCell := Lib.hid (fun (W : World) (hW : Below w.heap.size w W) => (hW.cell (p := ⟨b, off + t.length, none⟩) hb).trans hcl)
        have HN1 := Lib.hid (fun (S : ByteArray) (W : World) (h : S.size ≤ 1000) => refNode_any S (bs x) W (by omega) (by rw [bs_size]; omega))
        have HN2 := Lib.hid (fun (S : ByteArray) (W : World) (h : S.size ≤ 1000) => refNode_any (bs x) S W (by rw [bs_size]; omega) (by omega))
        rw [bs_list] at HN1 HN2
        have HLt := Lib.hid (fun W => refLeft_any n W hn2 hn)
        clear hL hq hTk hlen htl hcl
        generalize leftN n = K at *
        generalize t.length = N at *
        obtain ⟨M, hM⟩ : ∃ M, M = N + 1 := ⟨_, rfl⟩
        rw [← hM] at hlc wl ⊢
        have hM0' : decide ((M : Int) < 1) = false := by simp; omega
        have hM0'' : decide ((M : Int) - 1 < 0) = false := by simp; omega
        have y1 : 0 ≤ (M : Int) - 1 := by omega
        have l1 : (M : Int) - 1 < (M : Int) := by omega
        have t1 : ((M : Int) - 1).toNat = N := by omega
        have k1 : (M : Int) - 1 ≤ (c : Int) := by omega
        have z1 : 1 ≤ (M : Int) := by omega
        clear hM
        generalize bs old = O at *
        by_cases hik : m ≤ K
        · have d2 : decide ((m : Int) ≤ (K : Int)) = true := by simp; omega
          have HR := Lib.hid (HRec.out m K whole hm1 hik (by omega))
          have HV := Lib.hid (HV1.out hik)
          clear HRec HV1 HV2
          generalize bs x = X at *
          go_enter Tryz.func93, Tryz.ntmps93
          go_wp2_with (go_at_call 61; refine (HLt.out _).mono ?_; rintro e w' ⟨rfl, rfl⟩)
          refine HR.out.mono ?_
          rintro e w2 ⟨⟨A, B, ok, rfl, hv⟩, hb2⟩
          have q2 := HCell.out w2 hb2
          have HS := Lib.hid (HV.out A B ok hv)
          have HS32 := Lib.hid hv.2.2.2
          clear hv
          go_wp2_with fail
          refine (HN1.out B w2 HS32.out).mono ?_
          rintro e w3 ⟨rfl, hb3⟩
          go_wp2
          go_ret3
          exact ⟨⟨_, _, _, rfl, HS.out⟩, hb2.trans (hb3.mono hb2.size)⟩
        · have d2 : decide ((m : Int) ≤ (K : Int)) = false := by simp; omega
          have w2' : IntKind.i64.wrap ((n : Int) - (K : Int)) = ((n - K : Nat) : Int) := by rw [IntWalk.i64_in _ (by omega)]; omega
          have w3' : IntKind.i64.wrap ((m : Int) - (K : Int)) = ((m - K : Nat) : Int) := by rw [IntWalk.i64_in _ (by omega)]; omega
          have HR := Lib.hid (HRec.out (m - K) (n - K) false (by omega) (by omega) (by omega))
          have HV := Lib.hid (HV2.out hik)
          clear HRec HV1 HV2
          generalize bs x = X at *
          generalize n - K = n' at *
          generalize m - K = m' at *
          go_enter Tryz.func93, Tryz.ntmps93
          go_wp2_with (go_at_call 61; refine (HLt.out _).mono ?_; rintro e w' ⟨rfl, rfl⟩)
          refine HR.out.mono ?_
          rintro e w2 ⟨⟨A, B, ok, rfl, hv⟩, hb2⟩
          have q2 := HCell.out w2 hb2
          have HS := Lib.hid (HV.out A B ok hv)
          have HS32 := Lib.hid hv.2.2
          clear hv
          have HB2 := Lib.hid hb2
          have HN := Lib.hid (fun (S : ByteArray) (W : World) (hW : Below w.heap.size w W) (h : S.size ≤ 1000) => (HN2.out S W h).mono fun e w' (hh : _ ∧ _) => And.intro hh.1 (hW.trans (hh.2.mono hW.size)))
          go_wp2
          go_region_held3 (fun W => W.cell? ⟨b, off + N, none⟩ = some (.string X) ∧ Below w.heap.size w W) (first | exact ⟨HCell.out _ hBc, hBc⟩ | exact ⟨q2, hb2.drew⟩)
            (first | (go_at_call 62; (with_reducible refine (HN.out A _ (‹_ ∧ Below w.heap.size w _›).2 HS32.out.1).mono ?_); rintro e wc ⟨rfl, hBc⟩) | (go_at_call 62; (with_reducible refine (HN.out B _ (‹_ ∧ Below w.heap.size w _›).2 HS32.out.2).mono ?_); rintro e wc ⟨rfl, hBc⟩))
          all_goals go_wp2
          all_goals go_ret3
          all_goals exact ⟨⟨_, _, _, rfl, HS.out⟩, hBc⟩
end Go.Proofs.YthfenbdlolbikaaGreatDoor
