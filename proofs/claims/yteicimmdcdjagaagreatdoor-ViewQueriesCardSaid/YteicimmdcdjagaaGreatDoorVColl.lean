/- view.of and slices.Collect over it. -/
import Derived.Test.YteicimmdcdjagaaGreatDoorVRef1
import Derived.Test.YteicimmdcdjagaaGreatDoorMTreeB
set_option linter.unusedVariables false
set_option linter.unusedSimpArgs false
namespace Go.Proofs.YteicimmdcdjagaaGreatDoor
open Go.RowKit Go.Shelf
attribute [local go_sem] Oper.semAt_some

/-- append within a round. -/
theorem append_KI {α : Type} {K : SK α} (ok : K.Ok) {n l : Nat} {ops : Array Oper} {rest : List Oper} {o : Oper} {a : Act} {Q : Exit → Act → World → Prop} {wr : World} (hgd : o.guard = none) (s x : Operand)
    (ho : o.op = .call { callee := .builtin .append, args := #[s, x], argTypes := #[K.st, K.st] }) (base B2 : Nat) (v sv : Value) (ls l2 : List α)
    (hs : a.eval s = v) (hx : a.eval x = sv) (hown : OwnK K base wr v ls) (hsv : RowsAt K B2 wr sv l2) (hlen : ls.length + l2.length < 1000000) (hbase : base ≤ wr.heap.size)
    (h : ∀ v' w', OwnK K base w' v' (ls ++ l2) → wr.grownBy w' v.ownBlock → wpListIn (Fence.wide.inRound l) n Tryz.prog ops Q rest (a.put o.dst v') w') : wpListIn (Fence.wide.inRound l) n Tryz.prog ops Q (o :: rest) a wr :=
  wpListIn_plain hgd fun C hC => oper_wpIn_of_wp (fun c hc => by rw [ho] at hc; cases hc) (wp_append_K ok s x ho base B2 v sv ls l2 hs hx hown hsv hlen hbase fun v' w' h1 h2 _ => hC _ _ (h v' w' h1 h2))
theorem RowsAt.old {α : Type} {K : SK α} {B : Nat} {w w' : World} {v : Value} {l : List α} (h : RowsAt K B w v l) (ho : ∀ b, b < B → w'.heap[b]? = w.heap[b]?) : RowsAt K B w' v l := by
  obtain ⟨a, c, rfl, h1, h2, h3⟩ := h
  refine ⟨a, c, rfl, h1, h2, fun hp => ?_⟩
  obtain ⟨b, off, rfl, hlt, hc⟩ := h3 hp
  refine ⟨b, off, rfl, hlt, fun i x hi k u hu => ?_⟩
  have := hc i x hi k u hu
  simp only [World.cell?] at this ⊢
  rw [ho b hlt]
  exact this
/-- The notes about a unit among some notes. -/
def ofN (l : List VNote) (id : Int) : List VNote := l.filter fun n => decide (n.unit = id)
theorem ofN_succ (l : List VNote) (id : Int) (k : Nat) (h : k < l.length) : ofN (l.take (k + 1)) id = ofN (l.take k) id ++ if (l.getD k default).unit = id then [l.getD k default] else [] := by
  rw [take_getD l default k h]
  unfold ofN
  rw [List.filter_append]
  congr 1
  by_cases hu : (l.getD k default).unit = id <;> simp [hu, List.filter_cons]
theorem ofN_length (l : List VNote) (id : Int) : (ofN l id).length ≤ l.length := List.length_filter_le _ _
set_option maxRecDepth 100000 in
theorem of_any (key : List UInt8) (nv : Value) (hv : ∃ a n c, nv = .slice a n c) (id : Int) (w : World) :
    Calls Tryz.prog 68 #[dosV key nv, .int .i64 id] w fun e w' => e = .returned (.func (.func 100) #[] #[.pointer (some ⟨w.heap.size, 0, none⟩), .pointer (some ⟨w.heap.size + 1, 0, none⟩)]) ∧
      w' = (w.alloc (.cells #[.string (bs key), nv] 26)).alloc (.cells #[.int .i64 id] 3) := by
  obtain ⟨a, n, c, rfl⟩ := hv
  go_enter Tryz.func68, Tryz.ntmps68
  go_wp2
  go_ret
  exact ⟨rfl, rfl⟩
set_option maxRecDepth 100000 in
set_option maxHeartbeats 1000000 in
theorem of1_seq (n Bd Bi B N0 h : Nat) (key : List UInt8) (nv : Value) (l : List VNote) (id : Int) (w : World) (hd : DosN Bd key nv w) (hi : Boxed w Bi 3 (.int .i64 id)) (hr : RowsAt noteK B w nv l) (hl : l.length ≤ 1000000)
    (hB : B ≤ h) (hN : B ≤ N0) (hBd : Bd < B) (hBi : Bi < B) (hBw : B ≤ w.heap.size) :
    SeqStopsK Fence.wide n Tryz.prog 100 #[.pointer (some ⟨Bd, 0, none⟩), .pointer (some ⟨Bi, 0, none⟩)] (fun x : VNote => #[noteV x]) (KpBut N0 h) (fun xs => xs = ofN l id) (fun _ => True) (l.length + 1) w := by
  intro lp J Jx W hW hJ _ hY h0
  obtain ⟨a, c, rfl, hlc, hcm⟩ := hr.shape
  unfold maxLen at hcm
  have HY := Lib.hid hY
  have HJ := Lib.hid hJ
  have HD := Lib.hid hd
  have HI := Lib.hid hi
  have HR := Lib.hid hr
  have HO1 : Hid (∀ b, b < B → W.heap[b]? = w.heap[b]?) := fun b hb => hW.block b (by omega)
  have hzW := hW.size
  clear hY hJ hd hi hr hW
  generalize hm : l.length = m at *
  have HM := Lib.hid hm
  clear hm
  refine callsIn_of_wp Tryz.func100 rfl trivial ?_
  simp only [Tryz.ntmps100, List.size_toArray, List.length_cons, List.length_nil, Nat.reduceAdd, Nat.reduceSub, Array.replicate_succ, Array.replicate_zero, List.push_toArray, List.append_toArray, List.nil_append, List.cons_append]
  have c1 : W.cell? ⟨Bd, 1, none⟩ = some (.slice a m c) := BoxN.cell ((HO1.out Bd hBd).trans HD.out) 1 _ rfl
  gi_wp2
  clear c1
  gi_loopw [9] (fun u wr => ∃ k : Nat, k ≤ m ∧ u = .int .i64 k ∧ Hid (∀ b, b < B → wr.heap[b]? = w.heap[b]?) ∧ Hid (J (ofN (l.take k) id) wr)) (fun u _ => m - (intOf u).toNat)
  case atStart => exact ⟨0, Nat.zero_le _, rfl, HO1, Lib.hid h0⟩
  case round =>
    clear HO1 h0
    obtain ⟨k, hk, rfl, HO, HJk⟩ := hrel
    have hz : ∀ b, b < B → b < wr.heap.size := fun b hb => by
      have h1 := HO.out b hb
      rw [Array.getElem?_eq_getElem (show b < w.heap.size by omega)] at h1
      exact (Array.getElem?_eq_some_iff.1 h1).1
    have HZ := Lib.hid hz
    clear hz
    by_cases h1 : k < m
    · have ji : (k : Int) < (m : Int) := by omega
      have j0 : 0 ≤ (k : Int) := by omega
      obtain ⟨x, hx⟩ : ∃ x, x = l.getD k default := ⟨_, rfl⟩
      have hget : l[k]? = some x := by rw [hx, List.getD_eq_getElem?_getD, List.getElem?_eq_getElem (by rw [HM.out]; exact h1)]; rfl
      obtain ⟨b, off, hae, hb, hat⟩ := notes_at (HR.out.old HO.out) k x hget
      subst hae
      obtain ⟨p0, p1, p2, p3⟩ := hat
      have ci : wr.cell? ⟨Bi, 0, none⟩ = some (.int .i64 id) := (show Boxed wr Bi 3 (.int .i64 id) from (HO.out Bi hBi).trans HI.out).cell
      have hbx := box_new wr 48 (noteR x)
      obtain ⟨q0, q1, q2, q3⟩ := NoteN.cells hbx
      have HS := Lib.hid (ofN_succ l id k (by rw [HM.out]; exact h1))
      rw [← hx] at HS
      have hla : (ofN (l.take k) id).length < m + 1 := by
        have := ofN_length (l.take k) id
        rw [List.length_take] at this
        omega
      have HJ1 : Hid (J (ofN (l.take k) id) (wr.alloc (.cells (noteR x) 48))) := HJ.out _ _ _ none HJk.out (World.grownBy_alloc _ _ none) (fun r hr => by cases hr)
      have HO1 : Hid (∀ b, b < B → (wr.alloc (.cells (noteR x) 48)).heap[b]? = w.heap[b]?) := fun b hb => (Below.heap_alloc _ _ _ (HZ.out b hb)).trans (HO.out b hb)
      have ci1 : (wr.alloc (.cells (noteR x) 48)).cell? ⟨Bi, 0, none⟩ = some (.int .i64 id) := (show Boxed (wr.alloc (.cells (noteR x) 48)) Bi 3 (.int .i64 id) from (HO1.out Bi hBi).trans HI.out).cell
      clear hx hget hbx HJk HO
      by_cases hu : x.unit = id
      · have du : (x.unit == id) = true := by simp [hu]
        have HS1 : Hid (ofN (l.take (k + 1)) id = ofN (l.take k) id ++ [x]) := by show _ = _; rw [HS.out, if_pos hu]
        clear HS hu
        obtain ⟨fn, tmps, assign, body, hyi, hR⟩ := HY.out _ x _ HJ1.out hla
        try dsimp only at hyi
        gi_wp2
        refine ⟨(fun h => by cases h), hR.mono ?_⟩
        rintro e W3 (⟨rfl, hJ3, hk3⟩ | ⟨rfl, hJx3⟩)
        · have HJ3 : Hid (J (ofN (l.take (k + 1)) id) W3) := by show J _ _; rw [HS1.out]; exact hJ3
          have HO3 : Hid (∀ b, b < B → W3.heap[b]? = w.heap[b]?) := fun b hb => (hk3 b (by omega) (by omega)).trans (HO1.out b hb)
          clear hJ3 hk3 p0 p1 p2 p3 q0 q1 q2 q3 ci ci1 HJ1
          gi_wp2
          go_roundw
          case rel => exact ⟨k + 1, by omega, by go_num, HO3, HJ3⟩
          case measure => simp [intOf]; omega
        · gi_wp2
          refine bodyPost_ret (results_none rfl _ _ _) rfl ?_
          exact ⟨⟨_, rfl⟩, .inr ⟨_, trivial, hJx3⟩⟩
      · have du : (x.unit == id) = false := by simp [hu]
        have HS1 : Hid (ofN (l.take (k + 1)) id = ofN (l.take k) id) := by show _ = _; rw [HS.out, if_neg hu, List.append_nil]
        have HJ2 : Hid (J (ofN (l.take (k + 1)) id) (wr.alloc (.cells (noteR x) 48))) := by show J _ _; rw [HS1.out]; exact HJ1.out
        clear HS hu HS1 HJ1
        gi_wp2
        refine ⟨(fun f hf => by cases hf), ?_⟩
        gi_wp2
        go_roundw
        case rel => exact ⟨k + 1, by omega, by go_num, HO1, HJ2⟩
        case measure => simp [intOf]; omega
    · obtain rfl : k = m := by omega
      have ji : ¬ ((k : Int) < (k : Int)) := by omega
      have HJf : Hid (J (ofN l id) wr) := by
        have := HJk.out
        rwa [List.take_of_length_le (by rw [HM.out]; exact Nat.le_refl _)] at this
      clear h1 hk HJk
      gi_wp2
      go_end0
      exact ⟨⟨_, rfl⟩, .inl HJf.out⟩
/-- All blocks before n0 are kept but one. -/
def ButS (n0 h : Nat) (w w' : World) : Prop := w'.os = w.os ∧ w'.tape = w.tape ∧ w'.output = w.output ∧ w.heap.size ≤ w'.heap.size ∧ ∀ k, k < n0 → k ≠ h → w'.heap[k]? = w.heap[k]?
theorem ButS.refl (n0 h : Nat) (w : World) : ButS n0 h w w := ⟨rfl, rfl, rfl, Nat.le_refl _, fun _ _ _ => rfl⟩
theorem ButS.grown {n0 h : Nat} {w w1 w2 : World} {row : Option Nat} (h1 : ButS n0 h w w1) (hg : w1.grownBy w2 row) (hn : n0 ≤ w1.heap.size) (hr : ∀ r, row = some r → n0 ≤ r ∨ r = h) : ButS n0 h w w2 :=
  ⟨hg.os.trans h1.1, hg.tape.trans h1.2.1, hg.output.trans h1.2.2.1, Nat.le_trans h1.2.2.2.1 hg.size, fun k hk hh => (hg.block k (by omega) (fun e => by rcases hr k e.symm with h2 | h2 <;> omega)).trans (h1.2.2.2.2 k hk hh)⟩
theorem ButS.below {n0 h B : Nat} {w w' : World} (h1 : ButS n0 h w w') (hB : B ≤ h) (hn : B ≤ n0) : Below B w w' := ⟨h1.1, h1.2.1, h1.2.2.1, h1.2.2.2.1, fun k hk => h1.2.2.2.2 k (by omega) (by omega)⟩
theorem OwnK.again {α : Type} {K : SK α} {base : Nat} {W W' : World} {v : Value} {l : List α} (h : OwnK K base W v l) (hk : ∀ (k : Nat) (o : Obj), W.heap[k]? = Option.some o → o.isCells = true → W'.heap[k]? = Option.some o) : OwnK K base W' v l := by
  refine ⟨h.1, ?_⟩
  rcases h.2 with h0 | ⟨g, cap, cur, h1, h2, h3, h4⟩
  · exact .inl h0
  · exact .inr ⟨g, cap, cur, h1, h2, hk _ _ h3 rfl, h4⟩
/-- Between two rounds of AppendSeq. -/
def CollI (Bs : Nat) (W0 : World) (pre : List VNote) (W : World) : Prop := ∃ v, Boxed W Bs 24 v ∧ OwnK noteK W0.heap.size W v pre ∧ ButS W0.heap.size Bs W0 W
theorem collI_own (Bs B : Nat) (W0 : World) (hB : W0.heap.size ≤ B) (hH : Bs < B) : OwnFrom B (CollI Bs W0) := by
  rintro s W W' row ⟨v, h1, h2, h3⟩ hg hr
  refine ⟨v, (hg.block Bs h1.lt (fun e => by have := (hr Bs e.symm).1; omega)).trans h1, h2.kept hg (fun g hgr he => ?_), h3.grown hg h3.2.2.2.1 (fun r hrr => .inl (by have := (hr r hrr).1; omega))⟩
  obtain ⟨_, o, ho, hc⟩ := hr g hgr
  rcases h2.2 with ⟨hv, _⟩ | ⟨g', cap, cur, hv, _, hgg, _⟩
  · rw [hv] at he; cases he
  · rw [hv] at he
    cases he
    rw [hgg] at ho
    cases ho
    cases hc
/-- Where the loop's variable lies. -/
def CollAx (H : Nat) (fr : VNote → Nat → Act) (x : VNote) (a' : Act) (W : World) : Prop := ∃ Bx, H ≤ Bx ∧ BoxN Bx 48 (noteR x) W ∧ a' = fr x Bx
theorem collAx_own (H B : Nat) (fr : VNote → Nat → Act) (x : VNote) (a' : Act) : OwnFrom B (fun (_ : Unit) W => CollAx H fr x a' W) := by
  rintro u W W' row ⟨Bx, h1, h2, h3⟩ hg hr
  refine ⟨Bx, h1, (hg.block Bx (Array.getElem?_eq_some_iff.1 h2).1 fun e => ?_).trans h2, h3⟩
  obtain ⟨_, o, ho, hc⟩ := hr Bx e.symm
  rw [show W.heap[Bx]? = _ from h2] at ho
  cases ho
  cases hc
set_option maxRecDepth 100000 in
set_option maxHeartbeats 2000000 in
theorem appseq_any (Bd Bi : Nat) (key : List UInt8) (nv : Value) (l : List VNote) (id : Int) (w : World) (hd : DosN Bd key nv w) (hi : Boxed w Bi 3 (.int .i64 id)) (hr : RowsAt noteK w.heap.size w nv l) (hl : l.length ≤ 100000) :
    Calls Tryz.prog 99 #[.slice none 0 0, .func (.func 100) #[] #[.pointer (some ⟨Bd, 0, none⟩), .pointer (some ⟨Bi, 0, none⟩)]] w fun e w' =>
      ∃ v, e = .returned v ∧ OwnK noteK w.heap.size w' v (ofN l id) ∧ Below w.heap.size w w' := by
  have HD := Lib.hid hd
  have HI := Lib.hid hi
  have HR := Lib.hid hr
  clear hd hi hr
  refine (callsIn_wide (n := 4)).1 ?_
  refine callsIn_of_wp_marks Tryz.func99 rfl trivial ?_
  simp only [Tryz.ntmps99, List.size_toArray, List.length_cons, List.length_nil, Nat.reduceAdd, Nat.reduceSub, Array.replicate_succ, Array.replicate_zero, List.push_toArray, List.append_toArray, List.nil_append, List.cons_append]
  refine wpIn_wide.2 ?_
  go_wp2
  obtain ⟨W2, hW2⟩ : ∃ W2, W2 = w.alloc (.cells #[.slice none 0 0] 24) := ⟨_, rfl⟩
  have hb2 : Below w.heap.size w W2 := by rw [hW2]; exact (Below.refl _ _).alloc (Nat.le_refl _) _
  have hbs : Boxed W2 w.heap.size 24 (.slice none 0 0) := by rw [hW2]; exact Boxed.new w _ _
  have hz2 : W2.heap.size = w.heap.size + 1 := by rw [hW2]; simp
  rw [← hW2]
  clear hW2
  have hd2 : DosN Bd key nv W2 := (hb2.block _ HD.out.lt).trans HD.out
  have hi2 : Boxed W2 Bi 3 (.int .i64 id) := (hb2.block _ HI.out.lt).trans HI.out
  have hr2 : RowsAt noteK w.heap.size W2 nv l := HR.out.below hb2 (Nat.le_refl _)
  have hBd := HD.out.lt
  have hBi := HI.out.lt
  have HB2 := Lib.hid hb2
  clear hb2
  refine (wpIn_wide (n := 4)).1 ?_
  refine wpIn_rangeFunc_ownH rfl (by omega) (gf := 100) (lb := #[.pointer (some ⟨Bd, 0, none⟩), .pointer (some ⟨Bi, 0, none⟩)]) rfl trivial (enters_of Tryz.func100 (by kernel_rfl) rfl)
    (of1_seq _ Bd Bi w.heap.size W2.heap.size w.heap.size key nv l id W2 hd2 hi2 hr2 (by omega) (Nat.le_refl _) (by omega) hBd hBi (by omega)) kpBut_t (kpBut_b (Nat.le_refl _)) (Below.refl _ _) (fun _ => rfl)
    (CollI w.heap.size W2) (fun _ _ _ => False) (collI_own _ _ _ (Nat.le_refl _) (by omega)) (fun c => fun _ _ _ _ h => h.elim)
    ⟨_, hbs, OwnK.nil _ _, ButS.refl _ _ _⟩ (CollAx W2.heap.size ?fr) (collAx_own _ _ _) ?assign ?body ?done ?stop
  case assign =>
    rintro l' pre x W' K hI hK
    have hI2 := hI
    obtain ⟨v, hv, hw, hs⟩ := hI2
    have hzG := hs.2.2.2.1
    gi_wp2
    obtain ⟨Bx, hBx⟩ : ∃ Bx, Bx = W'.heap.size := ⟨_, rfl⟩
    have hnew : BoxN Bx 48 (noteR x) (W'.alloc (.cells (noteR x) 48)) := by rw [hBx]; exact box_new W' _ _
    have hle : W2.heap.size ≤ Bx := by omega
    rw [← hBx]
    have hK2 := hK _ (W'.alloc (.cells (noteR x) 48)) ((KeepsOthers.alloc _ _).from _) (fun k hk _ => Below.heap_alloc _ _ _ (by omega)) ((collI_own w.heap.size W2.heap.size W2 (Nat.le_refl _) (by omega)) _ _ _ none hI (World.grownBy_alloc _ _ none) (fun r hr => by cases hr)) ⟨Bx, hle, hnew, rfl⟩
    exact hK2
  case stop =>
    rintro D c pre W' _ _ h _
    exact h.elim
  case body =>
    rintro l' pre x a' W' hl' ⟨r, hr⟩ ⟨v, hv, hw, hs⟩ ⟨Bx, hle, hblk, ha'⟩ hlt
    subst ha'
    have hzG := hs.2.2.2.1
    obtain ⟨q0, q1, q2, q3⟩ := NoteN.cells hblk
    have cv := hv.cell
    have hne : v.ownBlock ≠ some w.heap.size := fun e => by have := (World.ownsRow.lt hw _ e).1; omega
    have hal := World.grownBy_alloc W' (.cells (noteR x) 48) none
    have hv1 := hv.alloc (.cells (noteR x) 48)
    have hw1 := hw.kept hal (fun g h => by cases h)
    have hs1 := hs.grown hal hzG (fun r hr => by cases hr)
    have hrow : RowsAt noteK (W'.alloc (.cells (noteR x) 48)).heap.size (W'.alloc (.cells (noteR x) 48)) (.slice (some ⟨W'.heap.size, 0, none⟩) 1 1) [x] :=
      (ownK_lit noteOk W' [x] _ rfl (by simp)).rows noteOk
    have hzA : W2.heap.size ≤ (W'.alloc (.cells (noteR x) 48)).heap.size := by simp; omega
    have HK1 : Hid (KeepsFrom W2.heap.size W' (W'.alloc (.cells (noteR x) 48))) := (KeepsOthers.alloc _ _).from _
    have HKp1 : Hid (KpBut W2.heap.size w.heap.size W' (W'.alloc (.cells (noteR x) 48))) := fun k hk _ => Below.heap_alloc _ _ _ (by omega)
    have HV1 := Lib.hid hv1
    have HW1 := Lib.hid hw1
    have HS1 := Lib.hid hs1
    have HRow := Lib.hid hrow
    have HNe := Lib.hid hne
    have hpl : pre.length + 1 < 1000000 := by omega
    clear hv hw hs hblk hal hv1 hw1 hs1 hrow hne
    gi_wp2_with (gi_at_builtin; refine append_KI noteOk rfl _ _ rfl W2.heap.size _ v _ pre [x] rfl rfl HW1.out HRow.out (by simpa using hpl) hzA ?_; intro v' w4 hown' hgrow; obtain ⟨a', c', hsh, _, _⟩ := hown'.shape; rw [List.length_append, List.length_singleton] at hsh; subst hsh; have hv4 : Boxed w4 w.heap.size 24 v := HV1.out.kept hgrow (fun e => HNe.out e.symm); have cv4 := hv4.cell; have fv4 := hv4.frozen)
    have hbk : ∀ r, v.ownBlock = some r → W2.heap.size ≤ r := fun r hr => (World.ownsRow.lt HW1.out r hr).1
    have hs4 := HS1.out.grown hgrow hzA (fun r hr => .inl (hbk r hr))
    have hgs := grownBy_setCell' w4 w.heap.size (.slice a' (pre.length + 1) c')
    have hz4 := hgrow.size
    refine ⟨(HK1.out.trans ((KeepsOthers.of_grownBy hgrow fun j o hj ho => ?_).from _)).trans (KeepsFrom.of_grownBy hgs (fun j hj => by cases hj; omega)),
      kpBut_t (kpBut_t HKp1.out (fun k hk hh => hgrow.block k (Nat.lt_of_lt_of_le hk hzA) (fun e => absurd hk (Nat.not_lt.2 (hbk k e.symm))))) (fun k hk hh => hgs.block k (Nat.lt_of_lt_of_le hk (Nat.le_trans hzA hz4)) (fun e => hh (by cases e; rfl))), _, hv4.set _, hown'.kept hgs (fun g hg e => ?_), hs4.grown hgs (Nat.le_trans hzA hz4) (fun r hr => .inr (by cases hr; rfl))⟩
    · rcases HW1.out.2 with ⟨hv0, _⟩ | ⟨g', cap, cur, hv0, _, hgg, _⟩
      · rw [hv0] at hj; cases hj
      · rw [hv0] at hj
        cases hj
        rw [hgg] at ho
        cases ho
        rfl
    · cases hg
      have := (World.ownsRow.lt hown' _ e).1
      omega
  case done =>
    rintro D xs W' hD rfl ⟨v, hv, hw, hs⟩ hK
    have cv := hv.cell
    have HOw := Lib.hid hw
    have HAll : Hid (Below w.heap.size w W') := HB2.out.trans (hs.below (Nat.le_refl _) (by omega))
    have HKD := Lib.hid hK
    clear hw hs hK hv
    go_wp2
    have hKD := HKD.out
    refine leaves_marks (B := w.heap.size) [D] W' ⟨by simp, fun D' hD' => ?_⟩ fun W9 hb' hk' => ?_
    · rw [List.mem_singleton.1 hD']
      exact ⟨by omega, hKD⟩
    · refine ⟨_, results_tmp rfl _ _ _, v, rfl, (OwnK.mono HOw.out (by omega)).again hk', HAll.out.trans hb'⟩
set_option maxRecDepth 100000 in
theorem coll_any (Bd Bi : Nat) (key : List UInt8) (nv : Value) (l : List VNote) (id : Int) (w : World) (hd : DosN Bd key nv w) (hi : Boxed w Bi 3 (.int .i64 id)) (hr : RowsAt noteK w.heap.size w nv l) (hl : l.length ≤ 100000) :
    Calls Tryz.prog 67 #[.func (.func 100) #[] #[.pointer (some ⟨Bd, 0, none⟩), .pointer (some ⟨Bi, 0, none⟩)]] w fun e w' =>
      ∃ v, e = .returned v ∧ OwnK noteK w.heap.size w' v (ofN l id) ∧ Below w.heap.size w w' := by
  have HC := Lib.hid (appseq_any Bd Bi key nv l id w hd hi hr hl)
  clear hd hi hr
  go_enter Tryz.func67, Tryz.ntmps67
  go_wp2_with fail
  refine HC.out.mono ?_
  rintro e w1 ⟨v, rfl, hown, hb⟩
  have HO := Lib.hid hown
  have HB := Lib.hid hb
  clear hown hb
  go_wp2
  go_ret
  exact ⟨v, rfl, HO.out, HB.out⟩
end Go.Proofs.YteicimmdcdjagaaGreatDoor
