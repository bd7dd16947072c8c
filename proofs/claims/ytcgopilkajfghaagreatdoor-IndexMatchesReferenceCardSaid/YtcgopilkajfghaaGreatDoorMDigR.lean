import Derived.Test.YtcgopilkajfghaaGreatDoorMRefB
import Derived.Deep.RegionHeld3
import Derived.Deep.AppendLies
import Derived.Maps.AppendAt
import Derived.Test.YtcgopilkajfghaaGreatDoorMCalm
set_option linter.unusedVariables false
set_option linter.unusedSimpArgs false

section
/- Small facts that the laws of digest and its reference share; the reference's Left, Same, Digests. -/
set_option linter.unusedVariables false
set_option linter.unusedSimpArgs false
namespace Go.Proofs.YtcgopilkajfghaaGreatDoor
open Go.RowKit Go.Shelf

theorem extract_bs (x : Bytes) (q : Nat) : (bs x).extract 0 q = bs (x.take q) := by
  apply ByteArray.ext
  apply Array.ext'
  simp [bs, ByteArray.data_extract]
theorem leftN_exit {n e : Nat} (h : 2 ^ e < n) (h2 : (n : Int) - ((2 ^ e : Nat) : Int) ≤ ((2 ^ e : Nat) : Int)) : leftN n = 2 ^ e := leftN_of h (by rw [Nat.pow_succ]; omega)
theorem refLeft_any (n : Nat) (w : World) (h2 : 2 ≤ n) (hn : n ≤ 9223372036854775807) :
    Calls Tryz.prog 74 #[.int .i64 n] w fun e w' => e = .returned (.int .i64 (leftN n : Nat)) ∧ w = w' := by
  have HX : Hid (∀ e, 2 ^ e < n → (n : Int) - ((2 ^ e : Nat) : Int) ≤ ((2 ^ e : Nat) : Int) → leftN n = 2 ^ e) := fun e h h' => leftN_exit h h'
  go_enter Tryz.func74, Tryz.ntmps74
  go_wp2
  go_loop [3] (fun s => ∃ k : Nat, 1 ≤ k ∧ k < n ∧ s = .int .i64 k ∧ Hid (∃ e, k = 2 ^ e)) (fun s => n - (intOf s).toNat)
  case atStart => exact ⟨1, by omega, by omega, rfl, 0, rfl⟩
  case round =>
    obtain ⟨k, hk1, hkn, rfl, HE⟩ := hrel
    have w1 : IntKind.i64.wrap ((n : Int) - (k : Int)) = (n : Int) - (k : Int) := IntWalk.i64_in _ (by omega)
    by_cases hlt : (k : Int) < (n : Int) - (k : Int)
    · have w2 : IntKind.i64.wrap (2 * (k : Int)) = 2 * (k : Int) := IntWalk.i64_in _ (by omega)
      go_wp2
      go_round
      case rel =>
        refine ⟨2 * k, by omega, by omega, by go_num, ?_⟩
        obtain ⟨e, he⟩ := HE
        exact ⟨e + 1, by rw [he, Nat.pow_succ]; omega⟩
      case measure => simp [intOf]; omega
    · have HR : Hid (leftN n = k) := by
        obtain ⟨e, he⟩ := HE
        subst he
        exact HX.out e hkn (by omega)
      go_wp2
      go_ret
      exact ⟨by rw [HR.out]; rfl, rfl⟩
/-- What few and the cut of an entry make. -/
theorem cut_size (s : ByteArray) (q : Nat) (h : (q : Int) ≤ 60) : (s.extract 0 q).size ≤ 60 := by rw [ByteArray.size_extract]; omega
theorem bind_plain {root s t : Bytes} {n i : Int} {p q : List Bytes} (h1 : verB root n i s p = true) (h2 : verB root n i t q = true) (hne : s ≠ t) :
    0 ≤ i ∧ i < n ∧ collB (wayR p.reverse n.toNat i.toNat s).1 (wayR q.reverse n.toNat i.toNat t).1 = true := by
  unfold verB at h1 h2
  simp only [Bool.and_eq_true, decide_eq_true_eq, beq_iff_eq] at h1 h2
  obtain ⟨⟨⟨h3, h4⟩, h5⟩, h6⟩ := h1
  obtain ⟨⟨_, h7⟩, h8⟩ := h2
  have hd : ∀ l : List Bytes, digB l = true → ∀ x ∈ l.reverse, x.length = 32 := fun l hl x hx => by
    have := List.all_eq_true.1 hl x (List.mem_reverse.1 hx)
    simpa using this
  exact ⟨h3, h4, binding p.reverse q.reverse n.toNat i.toNat s t root (hd p h5) (hd q h7) hne h6 h8⟩
theorem wayR_el (p : List Bytes) : ∀ (n i : Nat) (s : Bytes), s.length ≤ 1000 → (∀ x ∈ p, x.length ≤ 1000) → ∀ x ∈ (wayR p n i s).1, x.length ≤ 1000000 := by
  induction p with
  | nil => intro n i s hs _ x hx; simp [wayR] at hx; rw [hx]; simp; omega
  | cons y t ih =>
    intro n i s hs hp x hx
    unfold wayR at hx
    have hy := hp y (by simp)
    have ht : ∀ z ∈ t, z.length ≤ 1000 := fun z hz => hp z (by simp [hz])
    split at hx
    · simp at hx; rw [hx]; simp; omega
    · split at hx
      · rcases List.mem_cons.1 hx with rfl | hx
        · have := (wayR_len t (leftN n) i s).2
          simp; omega
        · exact ih _ _ _ hs ht x hx
      · rcases List.mem_cons.1 hx with rfl | hx
        · have := (wayR_len t (n - leftN n) (i - leftN n) s).2
          simp; omega
        · exact ih _ _ _ hs ht x hx
theorem blen (s : ByteArray) : s.data.toList.length = s.size := by rw [Array.length_toList]; rfl
theorem str_eq (x y : ByteArray) : (x.toList == y.toList) = decide (x.data.toList = y.data.toList) := by
  rw [Lib.toList_data, Lib.toList_data, Bool.eq_iff_iff]; simp
theorem cut_min (s : ByteArray) (N : Int) (hN : 0 ≤ N) : ∃ m : Nat, min ((s.size : Nat) : Int) N = (m : Int) ∧ m ≤ s.size ∧ (m : Int) ≤ N :=
  ⟨min s.size N.toNat, by omega, by omega, by omega⟩
theorem rootL_eqs (l : List Bytes) (s : Bytes) (h : l.length = 0) : rootL (l ++ [s]) = leafB s ∧ rootL l = sha [] := by
  obtain rfl : l = [] := List.eq_nil_of_length_eq_zero h
  exact ⟨rootL_one s, rfl⟩
theorem Sm.snoc {l : List Bytes} (h : Sm l) (hl : l.length ≤ 1000) (s : Bytes) (hs : s.length ≤ 1000) : Sm (l ++ [s]) := ⟨by rw [List.length_append, List.length_singleton]; omega, fun x hx => by
  rcases List.mem_append.1 hx with hx | hx
  · exact h.2 x hx
  · rw [List.mem_singleton.1 hx]; exact hs⟩
theorem bs_self (x y : Bytes) (h : x = y) : ((bs x).toList == (bs y).toList) = true := by rw [h]; exact beq_self_eq_true _
theorem zip_take {α β : Type} : ∀ (k : Nat) (a : List α) (b : List β), (a.take k).zip (b.take k) = (a.zip b).take k
  | 0, _, _ => by simp
  | k + 1, [], _ => by simp
  | k + 1, _ :: _, [] => by simp
  | k + 1, x :: a, y :: b => by simp [zip_take k a b]
theorem bs_eq_list (x y : Bytes) : ((bs x).toList == (bs y).toList) = (x == y) := by rw [bs_toList, bs_toList]
theorem same_succ (a b : List Bytes) (k : Nat) (ha : k < a.length) (hb : k < b.length) : (a.take (k + 1) == b.take (k + 1)) = (a.take k == b.take k && a.getD k [] == b.getD k []) := by
  rw [take_getD a [] k ha, take_getD b [] k hb, Bool.eq_iff_iff]
  simp only [beq_iff_eq, Bool.and_eq_true]
  constructor
  · intro h
    have := List.append_inj h (by rw [List.length_take, List.length_take]; omega)
    exact ⟨this.1, by simpa using this.2⟩
  · rintro ⟨h1, h2⟩
    rw [h1, h2]
theorem same_no (a b : List Bytes) (k : Nat) (h : (a.getD k [] == b.getD k []) = false) : (a == b) = false := by
  rw [beq_eq_false_iff_ne] at h ⊢
  intro e
  rw [e] at h
  exact h rfl
theorem digB_succ (l : List Bytes) (k : Nat) (h : k < l.length) : digB (l.take (k + 1)) = (digB (l.take k) && decide ((l.getD k []).length = 32)) := by
  rw [take_getD l [] k h]
  unfold digB
  rw [List.all_append]
  simp
theorem digB_no (l : List Bytes) (k : Nat) (h : k < l.length) (hne : ¬ (l.getD k []).length = 32) : digB l = false := by
  unfold digB
  rw [List.all_eq_false]
  exact ⟨_, getD_mem' l [] k h, by simpa using hne⟩
end Go.Proofs.YtcgopilkajfghaaGreatDoor
end

section
/- append of strings as a step of a region that draws. -/
set_option linter.unusedVariables false
set_option linter.unusedSimpArgs false
namespace Go.Proofs.YtcgopilkajfghaaGreatDoor
open Go.RowKit Go.Shelf

theorem rowS_kept {base : Nat} {l : List Bytes} {v : Value} {W W' : World} {c : Option Nat} (h : OwnS base W v l) (hg : W.grownBy W' c) (hc : ∀ g, c = some g → v.ownBlock ≠ some g) : OwnS base W' v l :=
  World.ownsRow.kept h hg (by
    cases c with
    | none => cases v.ownBlock <;> simp
    | some g => exact .inr (hc g rfl))
/-- append of a list, at one operation. -/
theorem wp_append_SS {o : Oper} {a : Act} {w : World} {K : Act → World → Prop} {Q : Exit → Act → World → Prop} (s x : Operand)
    (ho : o.op = .call { callee := .builtin .append, args := #[s, x], argTypes := #[91, 91] }) (base b2 : Nat) (v sv : Value) (l l2 : List Bytes)
    (hs : a.eval s = v) (hx : a.eval x = sv) (hown : OwnS base w v l) (hsv : OwnS b2 w sv l2) (hlen : l.length + l2.length < 1000000) (hbase : base ≤ w.heap.size)
    (h : ∀ v' w', OwnS base w' v' (l ++ l2) → w.grownBy w' v.ownBlock → (v'.ownBlock = v.ownBlock ∨ v'.ownBlock = some w.heap.size) → K (a.put o.dst v') w') : Oper.wp Tryz.prog o a w K Q := by
  obtain ⟨i0, hi, hz0, hz1, hz2⟩ := info_parts infoS1
  rcases hsv.shape with ⟨rfl, rfl⟩ | ⟨g, cap, rfl, hg1, hg2, hg3, hg4⟩
  · have hr := run_append_owned_none (P := Tryz.prog) (w := w) base 91 o.type 9 i0 1 Tryz.underlying91 hi v l.length _ hown
    unfold Oper.wp execOp
    simp only [ho, resolve, invoke, builtin, Sem.run_bind, Sem.run_pure, Result.andThen_ok, List.map_toArray, List.map_cons, List.map_nil, hs, hx, hr]
    exact h v w (by rw [List.append_nil]; exact hown) ⟨rfl, rfl, rfl, Nat.le_refl _, fun _ _ _ => rfl⟩ (.inl rfl)
  · obtain ⟨v', w', hr, h2, h3, _, h5⟩ := run_append_own_at (P := Tryz.prog) w base 91 o.type 9 i0 (.string (⟨#[]⟩ : ByteArray)) 1 16 Tryz.underlying91 hi hz0 hz1 hz2 rfl (by decide) v l.length _ hown ⟨g, 0, none⟩ l2.length cap (l2.map (fun b => Value.string (bs b))) (by simp) (fun j u hj => World.ownsRow.cells hsv (g := g) rfl j u hj) (fun u hu => by obtain ⟨b, _, rfl⟩ := List.mem_map.1 hu; rfl) (by unfold maxLen; omega) (by omega) hbase
    unfold Oper.wp execOp
    simp only [ho, resolve, invoke, builtin, Sem.run_bind, Sem.run_pure, Result.andThen_ok, List.map_toArray, List.map_cons, List.map_nil, hs, hx, hr]
    refine h v' w' ?_ h3 h5
    unfold OwnS
    rw [List.length_append, List.map_append]
    exact h2
/-- append of a list, as a step of a region that draws. -/
theorem step_append_SS {ops : Array Oper} {o : Oper} {a : Act} {w : World} {K : Act → World → Prop} {Q : Exit → Act → World → Prop} {E : Prop} (hgd : o.guard = none) (s x : Operand)
    (ho : o.op = .call { callee := .builtin .append, args := #[s, x], argTypes := #[91, 91] }) (base b2 : Nat) (v sv : Value) (l l2 : List Bytes)
    (hs : a.eval s = v) (hx : a.eval x = sv) (hown : OwnS base w v l) (hsv : OwnS b2 w sv l2) (hlen : l.length + l2.length < 1000000) (hbase : base ≤ w.heap.size)
    (h : ∀ v' w', OwnS base w' v' (l ++ l2) → w.grownBy w' v.ownBlock → K (a.put o.dst v') w') :
    if Region.wanted o (yielded ops a.tmps) = true then Oper.wp Tryz.prog o a w K Q else E := by
  have hw : Region.wanted o (yielded ops a.tmps) = true := by simp [Region.wanted, hgd]
  rw [if_pos hw]
  exact wp_append_SS s x ho base b2 v sv l l2 hs hx hown hsv hlen hbase fun v' w' h1 h2 _ => h v' w' h1 h2
end Go.Proofs.YtcgopilkajfghaaGreatDoor
end

section
/- The reference's Root and Proof. -/
set_option linter.unusedVariables false
set_option linter.unusedSimpArgs false
namespace Go.Proofs.YtcgopilkajfghaaGreatDoor
open Go.RowKit Go.Shelf

set_option maxRecDepth 100000 in
set_option maxHeartbeats 2000000 in
theorem refRoot_step (l : List Bytes) (v : Value) (w : World) (hS : Sm l) (hL : StrsAt w.heap.size w v l)
    (hrec : ∀ (l' : List Bytes) (v' : Value) (W : World), l'.length < l.length → Sm l' → StrsAt W.heap.size W v' l' → Calls Tryz.prog 58 #[v'] W fun e w' => e = .returned (.string (bs (rootL l'))) ∧ Below W.heap.size W w') :
    Calls Tryz.prog 58 #[v] w fun e w' => e = .returned (.string (bs (rootL l))) ∧ Below w.heap.size w w' := by
  obtain ⟨a, c, rfl, hlc, hcm⟩ := hL.shape
  unfold maxLen at hcm
  by_cases h0 : l.length = 0
  · have HR : Hid (rootL l = sha []) := by rw [List.eq_nil_of_length_eq_zero h0]; rfl
    have HSm := Lib.hid (refSum_any (⟨#[]⟩ : ByteArray) w (by decide))
    rw [show ((⟨#[]⟩ : ByteArray).data.toList) = [] from rfl] at HSm
    rw [h0]
    clear hrec hS hL
    go_enter Tryz.func58, Tryz.ntmps58
    go_wp2_with (go_at_call 72; refine HSm.out.mono ?_; rintro e w9 ⟨rfl, hb9⟩)
    go_ret
    exact ⟨by rw [HR.out]; rfl, hb9⟩
  · by_cases h1 : l.length = 1
    · obtain ⟨b, off, rfl, hb, hcl⟩ := hL.at 0 (by omega)
      have HR : Hid (rootL l = leafB (l.getD 0 [])) := by
        match l, h1 with
        | [x], _ => exact rootL_one x
      have hxl := hS.2 _ (getD_mem' l [] 0 (by omega))
      have HLf := Lib.hid (refLeaf_any (bs (l.getD 0 [])) w (by rw [bs_size]; omega))
      rw [bs_list] at HLf
      rw [h1]
      have hcl' : w.cell? ⟨b, off, none⟩ = some (.string (bs (l.getD 0 []))) := hcl
      clear hrec hS hL
      generalize l.getD 0 [] = x at *
      generalize bs x = X at *
      go_enter Tryz.func58, Tryz.ntmps58
      go_wp2_with (go_at_call 73; refine HLf.out.mono ?_; rintro e w9 ⟨rfl, hb9⟩)
      go_ret
      exact ⟨by rw [HR.out]; rfl, hb9⟩
    · have h2 : 2 ≤ l.length := by omega
      have hlb := leftN_bd h2
      obtain ⟨b, off, ha⟩ := hL.addr (by omega)
      subst ha
      have hTk := hL.take (leftN l.length) (by omega)
      have hDr := hL.drop (leftN l.length) (by omega)
      have HT1 := Lib.hid (fun W (hW : Below w.heap.size w W) => (hrec (l.take (leftN l.length)) _ W (by rw [List.length_take]; omega) (hS.take _) (hTk.later hW (Nat.le_refl _))).mono fun e w' (h : _ ∧ _) => And.intro h.1 (hW.trans (h.2.mono hW.size)))
      have HT2 := Lib.hid (fun W (hW : Below w.heap.size w W) => (hrec (l.drop (leftN l.length)) _ W (by rw [List.length_drop]; omega) (hS.drop _) (hDr.later hW (Nat.le_refl _))).mono fun e w' (h : _ ∧ _) => And.intro h.1 (hW.trans (h.2.mono hW.size)))
      have HR := Lib.hid (rootL_split h2)
      have hln := hS.1
      clear hrec hS hTk hDr hL
      have HNd := Lib.hid (fun W (hW : Below w.heap.size w W) => (refNode_any (bs (rootL (l.take (leftN l.length)))) (bs (rootL (l.drop (leftN l.length)))) W (by rw [bs_size, rootL_length]; decide) (by rw [bs_size, rootL_length]; decide)).mono fun e w' (h : _ ∧ _) => And.intro h.1 (hW.trans (h.2.mono hW.size)))
      rw [bs_list, bs_list] at HNd
      have HLt := Lib.hid (fun W => refLeft_any l.length W h2 (by omega))
      generalize l.length = N at *
      generalize leftN N = K at *
      generalize rootL (l.take K) = r1 at *
      generalize rootL (l.drop K) = r2 at *
      have e1 : (K : Int) ≤ (N : Int) := by omega
      have e3 : (K : Int) ≤ (c : Int) := by omega
      have e4 : (N : Int) ≤ (c : Int) := by omega
      have hn0 : ((N : Int) == 0) = false := by simp; omega
      have hn1 : ((N : Int) == 1) = false := by simp; omega
      have hB0 := Below.refl w.heap.size w
      go_enter Tryz.func58, Tryz.ntmps58
      go_wp2_with (go_at_call 74; refine (HLt.out _).mono ?_; rintro e w' ⟨rfl, rfl⟩)
      go_region_held3 (fun W => Below w.heap.size w W) (first | exact hBc | exact hB0.drew)
        (first
          | (go_at_call 58; (with_reducible refine (HT1.out _ (by assumption)).mono ?_); rintro e wc ⟨rfl, hBc⟩)
          | (go_at_call 58; (with_reducible refine (HT2.out _ (by assumption)).mono ?_); rintro e wc ⟨rfl, hBc⟩)
          | (go_at_call 75; (with_reducible refine (HNd.out _ (by assumption)).mono ?_); rintro e wc ⟨rfl, hBc⟩))
      all_goals go_wp2
      all_goals go_ret
      all_goals exact ⟨by rw [HR.out]; rfl, hBc⟩
theorem refRoot_any : ∀ (N : Nat) (l : List Bytes) (v : Value) (w : World), l.length ≤ N → Sm l → StrsAt w.heap.size w v l →
    Calls Tryz.prog 58 #[v] w fun e w' => e = .returned (.string (bs (rootL l))) ∧ Below w.heap.size w w'
  | 0, l, v, w, hN, hS, hL => refRoot_step l v w hS hL (fun l' v' W h _ _ => absurd h (by omega))
  | N + 1, l, v, w, hN, hS, hL => refRoot_step l v w hS hL (fun l' v' W h hS' hL' => refRoot_any N l' v' W (by omega) hS' hL')
end Go.Proofs.YtcgopilkajfghaaGreatDoor
end
