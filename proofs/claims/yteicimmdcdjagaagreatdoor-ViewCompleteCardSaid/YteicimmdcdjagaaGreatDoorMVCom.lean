import Derived.Test.YteicimmdcdjagaaGreatDoorVQ0
import Derived.Test.YteicimmdcdjagaaGreatDoorMDigR
import Derived.Test.YteicimmdcdjagaaGreatDoorMVRef
import Derived.Test.YteicimmdcdjagaaGreatDoorVFrame
import Derived.Deep.Strs
set_option linter.unusedVariables false
set_option linter.unusedSimpArgs false

section
/- Rows of notes: a store into an element; append to a slice without room. -/
set_option linter.unusedVariables false
set_option linter.unusedSimpArgs false
namespace Go.Proofs.YteicimmdcdjagaaGreatDoor
open Go.RowKit Go.Shelf

theorem cellsK_set {α : Type} [Inhabited α] {K : SK α} (ok : K.Ok) : ∀ (l : List α) (k f : Nat) (y : α) (u : Value), k < l.length → f < K.size → K.enc y = (K.enc (l.getD k default)).set f u → cellsK K (l.set k y) = (cellsK K l).set (k * K.size + f) u
  | [], k, _, _, _, h, _, _ => by simp at h
  | x :: tl, 0, f, y, u, _, hf, he => by
    have e : cellsK K (x :: tl) = K.enc x ++ cellsK K tl := rfl
    have e2 : cellsK K (y :: tl) = K.enc y ++ cellsK K tl := rfl
    rw [List.set_cons_zero, e, e2, Nat.zero_mul, Nat.zero_add, List.set_append_left _ _ (by rw [ok.len]; exact hf), he]
    rfl
  | x :: tl, k + 1, f, y, u, h, hf, he => by
    have e : cellsK K (x :: tl) = K.enc x ++ cellsK K tl := rfl
    have e2 : cellsK K (x :: tl.set k y) = K.enc x ++ cellsK K (tl.set k y) := rfl
    have e3 : (k + 1) * K.size + f - K.size = k * K.size + f := by rw [Nat.succ_mul]; omega
    rw [List.set_cons_succ, e, e2, List.set_append_right _ _ (by rw [ok.len, Nat.succ_mul]; omega), ok.len, e3, cellsK_set ok tl k f y u (by simpa using h) hf he]
theorem ownK_storeC {α : Type} [Inhabited α] {K : SK α} (ok : K.Ok) {base : Nat} {W : World} {g n cap : Nat} {l : List α} (h : OwnK K base W (.slice (some ⟨g, 0, none⟩) n cap) l) (k f : Nat) (y : α) (u : Value) (hk : k < l.length) (hf : f < K.size) (he : K.enc y = (K.enc (l.getD k default)).set f u) :
    OwnK K base (W.setCell ⟨g, k * K.size + f, none⟩ u) (.slice (some ⟨g, 0, none⟩) n cap) (l.set k y) := by
  have hn : n = l.length := (h.rows ok).len.1
  subst hn
  have := (World.ownsRow.stored (show W.ownsRow base K.ty K.size _ _ _ from h) (k * K.size + f) u).1
  unfold OwnK
  rw [List.length_set, cellsK_set ok l k f y u hk hf he]
  exact this
theorem ownS_store {base : Nat} {W : World} {g n cap : Nat} {l : List Bytes} (h : OwnS base W (.slice (some ⟨g, 0, none⟩) n cap) l) (hn : n = l.length) (j : Nat) (x : Bytes) : OwnS base (W.setCell ⟨g, j, none⟩ (.string (bs x))) (.slice (some ⟨g, 0, none⟩) n cap) (l.set j x) := by
  subst hn
  have := (World.ownsRow.stored (show W.ownsRow base 9 1 _ _ _ from h) j (.string (bs x))).1
  unfold OwnS
  rw [List.length_set, List.map_set]
  exact this
theorem rows_setNe {α : Type} {K : SK α} {B : Nat} {W : World} {v : Value} {l : List α} (h : RowsAt K B W v l) {g : Nat} (hne : ∀ b, v.ownBlock = some b → b ≠ g) (j : Nat) (x : Value) : RowsAt K B (W.setCell ⟨g, j, none⟩ x) v l := by
  obtain ⟨a, c, rfl, h1, h2, h3⟩ := h
  refine ⟨a, c, rfl, h1, h2, fun hp => ?_⟩
  obtain ⟨b, off, rfl, hb, hc⟩ := h3 hp
  refine ⟨b, off, rfl, hb, fun i x' hi k u hu => ?_⟩
  have h4 := hc i x' hi k u hu
  have hbg : b ≠ g := hne b rfl
  unfold World.cell? at h4 ⊢
  simp only at h4 ⊢
  rw [heap_setCell_other W ⟨g, j, none⟩ b x hbg]
  exact h4
set_option maxHeartbeats 1000000 in
theorem wp_append_cutK {α : Type} {K : SK α} (ok : K.Ok) {o : Oper} {a : Act} {w : World} {C : Act → World → Prop} {Q : Exit → Act → World → Prop} (s x : Operand)
    (ho : o.op = .call { callee := .builtin .append, args := #[s, x], argTypes := #[K.st, K.st] }) (b i : Nat) (sv : Value) (l l2 : List α)
    (hs : a.eval s = .slice (some ⟨b, 0, none⟩) i i) (hx : a.eval x = sv) (hb : b < w.heap.size) (hl : l.length = i) (hR : RowsAt K w.heap.size w (.slice (some ⟨b, 0, none⟩) i i) l) (hsv : RowsAt K w.heap.size w sv l2) (hlen : l.length + l2.length < 1000000)
    (h : ∀ v' w', RowsAt K w'.heap.size w' v' (l ++ l2) → w.grownBy w' none → (∀ g, v'.ownBlock = some g → g < w'.heap.size ∧ (w.heap.size ≤ g ∨ some b = some g)) → C (a.put o.dst v') w') : Oper.wp Tryz.prog o a w C Q := by
  obtain ⟨i0, hi, hz0, hz1, hz2⟩ := info_parts ok.info
  obtain ⟨sa, sc, rfl, hs1, hs2, hs3⟩ := hsv
  subst hl
  have hcl : ∀ j u, (cellsK K l)[j]? = some u → w.cell? ((⟨b, 0, none⟩ : Addr).add j) = some u := fun j u hu => by
    have hp : 0 < l.length := by
      have := (List.getElem?_eq_some_iff.1 hu).1
      rw [cellsK_length ok] at this
      exact Nat.pos_of_ne_zero fun e => by rw [e, Nat.zero_mul] at this; omega
    obtain ⟨a', c0, he, h1, h2, h3⟩ := hR
    have e1 := (Value.slice.inj he).1
    obtain ⟨b', off', ha, hbb, hcc⟩ := h3 hp
    rw [ha] at e1
    cases e1
    exact rows_cells ok hcc j u hu
  have stay : ∀ (hr : (Builtin.append_ #[K.st, K.st] o.type #[.slice (some ⟨b, 0, none⟩) l.length l.length, .slice sa l2.length sc]).run Tryz.prog w = .ok (.slice (some ⟨b, 0, none⟩) l.length l.length) w), l2 = [] → Oper.wp Tryz.prog o a w C Q := fun hr he => by
    unfold Oper.wp execOp
    simp only [ho, resolve, invoke, builtin, Sem.run_bind, Sem.run_pure, Result.andThen_ok, List.map_toArray, List.map_cons, List.map_nil, hs, hx, hr]
    refine h _ w (by rw [he, List.append_nil]; exact hR) ⟨rfl, rfl, rfl, Nat.le_refl _, fun _ _ _ => rfl⟩ (fun g hg => ?_)
    have hg' : some b = some g := hg
    cases hg'
    exact ⟨hb, .inr rfl⟩
  have hby : (l.length + l2.length) * K.bytes ≤ 140737488355328 := Nat.le_trans (Nat.mul_le_mul (Nat.le_of_lt hlen) ok.small) (by omega)
  by_cases hp : 0 < l2.length
  · obtain ⟨b2, off, rfl, hb2, hc⟩ := hs3 hp
    obtain ⟨v', w', hr, h2, h3⟩ := run_append_arg_grows (P := Tryz.prog) w K.st o.type K.ty i0 K.zero K.size K.bytes ok.und hi hz0 hz1 hz2 ok.zc ok.pos ⟨b, 0, none⟩ l.length l.length (cellsK K l) (cellsK_length ok l) hcl ⟨b2, off, none⟩ l2.length sc (cellsK K l2) (cellsK_length ok l2) (rows_cells ok hc) (by omega) (by unfold maxLen; omega) hby
    unfold Oper.wp execOp
    simp only [ho, resolve, invoke, builtin, Sem.run_bind, Sem.run_pure, Result.andThen_ok, List.map_toArray, List.map_cons, List.map_nil, hs, hx, hr]
    have h4 : OwnK K w.heap.size w' v' (l ++ l2) := by
      unfold OwnK
      rw [List.length_append, cellsK_append]
      exact h2
    exact h v' w' (h4.rows ok) h3 (fun g hg => ⟨(World.ownsRow.lt h4 g hg).2, .inl (World.ownsRow.lt h4 g hg).1⟩)
  · obtain rfl : l2 = [] := List.eq_nil_of_length_eq_zero (by omega)
    cases sa with
    | none =>
      refine stay ?_ rfl
      simp [Builtin.append_, run_underlying ok.und, sizeOf, typeInfo, hi, Builtin.lenOf, Builtin.firstCells, storeCells]
    | some ad =>
      refine stay ?_ rfl
      have := run_append_room_cells (P := Tryz.prog) w K.st o.type K.ty i0 ok.und hi b 0 l.length l.length ad 0 sc [] (by simp) (fun j u hu => by simp at hu) (fun u hu => by simp at hu) (Nat.le_refl _) (fun j hj => by simp at hj) (fun j hj => by simp at hj)
      simpa [World.setCells] using this
end Go.Proofs.YteicimmdcdjagaaGreatDoor
end

section
/- The statements' cut: the first notes, their texts cut. -/
set_option linter.unusedVariables false
set_option linter.unusedSimpArgs false
namespace Go.Proofs.YteicimmdcdjagaaGreatDoor
open Go.RowKit Go.Shelf

theorem min_nat (a b : Nat) : min (a : Int) (b : Int) = ((min a b : Nat) : Int) := by omega
set_option maxRecDepth 100000 in
set_option maxHeartbeats 4000000 in
theorem cut_any (nv : Value) (l : List VNote) (n : Nat) (hn : n ≤ 1000) (w : World) (h : RowsAt noteK w.heap.size w nv l) :
    Calls Tryz.prog 22 #[nv, .int .i64 (n : Int)] w fun e w' => ∃ nv' l', e = .returned nv' ∧ OwnK noteK w.heap.size w' nv' l' ∧ l'.length ≤ n ∧ Below w.heap.size w w' := by
  obtain ⟨ra, rc, rfl, hrc1, hrc2⟩ := h.shape
  unfold maxLen at hrc2
  have HL := Lib.hid h
  generalize hm : l.length = m at *
  have HM := Lib.hid hm
  clear hm h
  go_enter Tryz.func22, Tryz.ntmps22
  go_wp2
  go_loopw [5, 6] (fun v i wr => ∃ (k : Nat) (T : List VNote), k ≤ n ∧ k ≤ m ∧ i = .int .i64 k ∧ (∃ sa sc, v = .slice sa k sc) ∧ Hid (T.length = k) ∧ Hid (OwnK noteK w.heap.size wr v T) ∧ Hid (Below w.heap.size w wr)) (fun _ i _ => n - (intOf i).toNat)
  case atStart => exact ⟨0, [], Nat.zero_le _, Nat.zero_le _, rfl, ⟨_, _, rfl⟩, Lib.hid rfl, Lib.hid (OwnK.nil _ _), Lib.hid (Below.refl _ _)⟩
  case round =>
    obtain ⟨k, T, hkn, hkm, rfl, ⟨sa, sc, rfl⟩, HT, HO, HB⟩ := hrel
    by_cases h1 : k < m
    · have d1 : decide ((k : Int) < (m : Int)) = true := by simp; omega
      by_cases h2 : k < n
      · have d2 : decide ((k : Int) < (n : Int)) = true := by simp; omega
        have ji : (k : Int) < (m : Int) := by omega
        have j0 : 0 ≤ (k : Int) := by omega
        have wk : IntKind.i64.wrap ((k : Int) + 1) = (k : Int) + 1 := IntWalk.i64_in _ (by omega)
        obtain ⟨x, hx⟩ : ∃ x, x = l.getD k default := ⟨_, rfl⟩
        have hget : l[k]? = some x := by rw [hx, List.getD_eq_getElem?_getD, List.getElem?_eq_getElem (by rw [HM.out]; exact h1)]; rfl
        obtain ⟨gb, off, hae, hgb, hat⟩ := notes_at HL.out k x hget
        subst hae
        obtain ⟨p0, p1, p2, p3⟩ := hat
        have x0 := (HB.out.cell (p := ⟨gb, off + k * 4, none⟩) hgb).trans p0
        have x1 := (HB.out.cell (p := ⟨gb, off + k * 4 + 1, none⟩) hgb).trans p1
        have x2 := (HB.out.cell (p := ⟨gb, off + k * 4 + 2, none⟩) hgb).trans p2
        have x3 := (HB.out.cell (p := ⟨gb, off + k * 4 + 3, none⟩) hgb).trans p3
        obtain ⟨q, hq⟩ : ∃ q, q = min (bs x.text).size 101 := ⟨_, rfl⟩
        have hmin : min ((bs x.text).size : Int) 101 = (q : Int) := by rw [hq]; omega
        have sl1 : (q : Int) ≤ ((bs x.text).size : Int) := by omega
        have sl2 : q ≤ (bs x.text).size := by omega
        have sl0 : 0 ≤ (q : Int) := by omega
        have HY := Lib.hid (extract_bs x.text q)
        obtain ⟨y, hy⟩ : ∃ y : VNote, y = ⟨x.unit, x.day, x.kind, x.text.take q⟩ := ⟨_, rfl⟩
        have hcs : (#[.int .i64 x.unit, .int .i64 x.day, .int .i64 x.kind, .string ((bs x.text).extract 0 q)] : Array Value) = noteR y := by rw [HY.out, hy]
        have HO1 : Hid (OwnK noteK w.heap.size ((wr.alloc (.cells #[.int .i64 x.unit, .int .i64 x.day, .int .i64 x.kind, .string ((bs x.text).extract 0 q)] 48)).alloc (.cells #[.int .i64 x.unit, .int .i64 x.day, .int .i64 x.kind, .string ((bs x.text).extract 0 q)] 48)) (.slice sa k sc) T) :=
          OwnK.kept (OwnK.kept HO.out (World.grownBy_alloc wr _ none) (fun g h => by cases h)) (World.grownBy_alloc _ _ none) (fun g h => by cases h)
        have HB1 : Hid (Below w.heap.size w ((wr.alloc (.cells #[.int .i64 x.unit, .int .i64 x.day, .int .i64 x.kind, .string ((bs x.text).extract 0 q)] 48)).alloc (.cells #[.int .i64 x.unit, .int .i64 x.day, .int .i64 x.kind, .string ((bs x.text).extract 0 q)] 48))) :=
          (HB.out.alloc HB.out.size _).alloc (HB.out.alloc HB.out.size _).size _
        have HLit : Hid (RowsAt noteK ((wr.alloc (.cells #[.int .i64 x.unit, .int .i64 x.day, .int .i64 x.kind, .string ((bs x.text).extract 0 q)] 48)).alloc (.cells #[.int .i64 x.unit, .int .i64 x.day, .int .i64 x.kind, .string ((bs x.text).extract 0 q)] 48)).heap.size ((wr.alloc (.cells #[.int .i64 x.unit, .int .i64 x.day, .int .i64 x.kind, .string ((bs x.text).extract 0 q)] 48)).alloc (.cells #[.int .i64 x.unit, .int .i64 x.day, .int .i64 x.kind, .string ((bs x.text).extract 0 q)] 48)) (.slice (some ⟨wr.heap.size + 1, 0, none⟩) 1 1) [y]) := by
          show RowsAt _ _ _ _ _
          rw [hcs]
          exact rowN_lit' (wr.alloc (.cells (noteR y) 48)) y (wr.heap.size + 1) (by simp)
        have hzz := HB1.out.size
        clear hx hget hgb hq p0 p1 p2 p3 hy hcs
        go_wp2_with (at_builtin; refine append_KK noteOk rfl _ _ rfl w.heap.size _ _ _ T [y] rfl rfl HO1.out HLit.out (by rw [HT.out, List.length_singleton]; omega) hzz w HB1.out ?_; intro v' w9 hown' hgrow hbelow; obtain ⟨a', c', hsh, _, _⟩ := hown'.shape; rw [List.length_append, List.length_singleton, HT.out] at hsh; subst hsh)
        have HOg := Lib.hid hown'
        have HBg := Lib.hid hbelow
        clear hown' hgrow hbelow x0 x1 x2 x3 HO1 HB1
        go_roundw
        case rel => exact ⟨k + 1, T ++ [y], by omega, by omega, by go_num, ⟨_, _, rfl⟩, by show _ = _; rw [List.length_append, List.length_singleton, HT.out], HOg, HBg⟩
        case measure => simp [intOf]; omega
      · obtain rfl : n = k := by omega
        have d2 : decide ((n : Int) < (n : Int)) = false := by simp
        go_wp2
        go_ret
        exact ⟨_, _, rfl, HO.out, by rw [HT.out]; exact Nat.le_refl _, HB.out⟩
    · obtain rfl : m = k := by omega
      have d1 : decide ((m : Int) < (m : Int)) = false := by simp
      go_wp2
      go_ret
      exact ⟨_, _, rfl, HO.out, by rw [HT.out]; exact hkn, HB.out⟩
end Go.Proofs.YteicimmdcdjagaaGreatDoor
end

section
/- The reference's Bent: some page. -/
set_option linter.unusedVariables false
set_option linter.unusedSimpArgs false
namespace Go.Proofs.YteicimmdcdjagaaGreatDoor
open Go.RowKit Go.Shelf

/-- Rows of strings as rows of a kind. -/
def strK : SK Bytes := ⟨9, 34, 1, 16, .string (⟨#[]⟩ : ByteArray), fun b => [.string (bs b)]⟩
theorem strOk : strK.Ok where
  pos := by decide
  len := fun _ => rfl
  one := fun x u hu => by
    simp only [strK, List.mem_cons, List.not_mem_nil, or_false] at hu
    subst hu
    rfl
  und := Tryz.underlying34
  info := by kernel_rfl
  zc := rfl
  small := by decide
theorem StrsAt.rowsK {B : Nat} {w : World} {v : Value} {l : List Bytes} (h : StrsAt B w v l) : RowsAt strK B w v l := by
  obtain ⟨a, c, rfl, h1, h2⟩ := h.shape
  refine ⟨a, c, rfl, h1, h2, fun hp => ?_⟩
  obtain ⟨b, off, ha, hb, _⟩ := h.at 0 hp
  refine ⟨b, off, ha, hb, fun i x hi k u hu => ?_⟩
  have hil := (List.getElem?_eq_some_iff.1 hi).1
  obtain ⟨b', off', ha', _, hc⟩ := h.at i hil
  rw [ha] at ha'
  cases ha'
  have hk : k = 0 := by
    have := (List.getElem?_eq_some_iff.1 hu).1
    simp only [strK, List.length_cons, List.length_nil] at this
    omega
  subst hk
  have hu' : u = .string (bs x) := by simpa [strK] using hu.symm
  subst hu'
  rw [List.getD_eq_getElem?_getD, hi] at hc
  simpa [strK] using hc
theorem RowsAt.strsK {B : Nat} {w : World} {v : Value} {l : List Bytes} (h : RowsAt strK B w v l) : StrsAt B w v l := by
  obtain ⟨a, c, rfl, h1, h2, h3⟩ := h
  refine ⟨a, c, rfl, h1, h2, fun hp => ?_⟩
  obtain ⟨b, off, ha, hb, hc⟩ := h3 hp
  refine ⟨b, off, ha, hb, fun i hi => ?_⟩
  have := hc i (l.getD i []) (by rw [List.getD_eq_getElem?_getD, List.getElem?_eq_getElem hi]; rfl) 0 _ rfl
  simpa [strK] using this
/-- l[:k:k] -/
theorem run_cutN (ra : Option Addr) (m rc k : Nat) (h : k ≤ rc) (W : World) : (Instr.sliceAt 24 (.slice ra m rc) none (some (.int .i64 (k : Int))) (some (.int .i64 (k : Int)))).run Tryz.prog W = .ok (.slice ra k k) W := by
  have h1 : (k : Int) ≤ (rc : Int) := by omega
  have h2 : (0 : Int) ≤ (k : Int) := by omega
  have h3 : (k : Int) ≤ (k : Int) := Int.le_refl _
  cases ra with
  | none => simp [go_sem, h1, h2, h3]
  | some a =>
    obtain ⟨b, o, p⟩ := a
    cases p <;> simp [go_sem, h1, h2, h3, Addr.add]
/-- l[k:] -/
theorem run_dropN (b n c k : Nat) (h : k ≤ n) (hn : n ≤ c) : ∃ sa sc, (∀ W : World, (Instr.sliceAt 24 (.slice (some ⟨b, 0, none⟩) n c) (some (.int .i64 (k : Int))) none none).run Tryz.prog W = .ok (.slice sa (n - k) sc) W) ∧
    ∀ (B : Nat) (W : World) (l : List VNote), RowsAt noteK B W (.slice (some ⟨b, 0, none⟩) n c) l → RowsAt noteK B W (.slice sa (n - k) sc) (l.drop k) := by
  have h1 : (k : Int) ≤ (n : Int) := by omega
  have h2 : (0 : Int) ≤ (k : Int) := by omega
  by_cases hc : c = k
  · refine ⟨some ⟨b, 0, none⟩, c - k, fun W => by subst hc; simp [go_sem, h1, h2], fun B W l hR => ?_⟩
    obtain ⟨e1, e2, e3⟩ := hR.len
    have hl : (l.drop k).length = 0 := by rw [List.length_drop]; omega
    exact ⟨_, c - k, by rw [hl, show n - k = 0 from by omega], by omega, by omega, fun hp => by omega⟩
  · refine ⟨some ⟨b, 0 + k * 4, none⟩, c - k, fun W => by simp [go_sem, h1, h2, hc, Addr.add]; omega, fun B W l hR => ?_⟩
    exact hR.drop k (by have := hR.len.1; omega)
/-- The page that is being bent: its box, the box of the result, its rows. -/
def BentR (w : World) (u : Int) (nv : Value) (s : List UInt8) (pv : Value) (l : List VNote) (q : List Bytes) (W : World) : Prop :=
  BoxN w.heap.size 39 #[.int .i64 u, nv, .string (bs s), pv] W ∧ BoxN (w.heap.size + 1) 39 #[.int .i64 0, .slice none 0 0, .string (⟨#[]⟩ : ByteArray), .slice none 0 0] W ∧ OwnK noteK (w.heap.size + 2) W nv l ∧ OwnK strK (w.heap.size + 2) W pv q ∧ Below w.heap.size w W
/-- .. where the notes may lie anywhere. -/
def BentW (w : World) (u : Int) (nv : Value) (s : List UInt8) (pv : Value) (l : List VNote) (q : List Bytes) (W : World) : Prop :=
  BoxN w.heap.size 39 #[.int .i64 u, nv, .string (bs s), pv] W ∧ BoxN (w.heap.size + 1) 39 #[.int .i64 0, .slice none 0 0, .string (⟨#[]⟩ : ByteArray), .slice none 0 0] W ∧ (RowsAt noteK W.heap.size W nv l ∧ ∀ b, nv.ownBlock = some b → b ≠ w.heap.size + 1) ∧ OwnK strK (w.heap.size + 2) W pv q ∧ Below w.heap.size w W
theorem BentR.w {w : World} {u : Int} {nv pv : Value} {s : List UInt8} {l : List VNote} {q : List Bytes} {W : World} (h : BentR w u nv s pv l q W) : BentW w u nv s pv l q W :=
  ⟨h.1, h.2.1, ⟨h.2.2.1.rows noteOk, fun b hb => by have := (World.ownsRow.lt h.2.2.1 b hb).1; omega⟩, h.2.2.2.1, h.2.2.2.2⟩
/-- The end: the result is laid. -/
theorem BentW.fin {w : World} {u : Int} {nv pv : Value} {s : List UInt8} {l : List VNote} {q : List Bytes} {W : World} (h : BentW w u nv s pv l q W) :
    BoxN (w.heap.size + 1) 39 #[.int .i64 u, nv, .string (bs s), pv] ((((W.setCell ⟨w.heap.size + 1, 0, none⟩ (.int .i64 u)).setCell ⟨w.heap.size + 1, 1, none⟩ nv).setCell ⟨w.heap.size + 1, 2, none⟩ (.string (bs s))).setCell ⟨w.heap.size + 1, 3, none⟩ pv) ∧
    RowsAt noteK ((((W.setCell ⟨w.heap.size + 1, 0, none⟩ (.int .i64 u)).setCell ⟨w.heap.size + 1, 1, none⟩ nv).setCell ⟨w.heap.size + 1, 2, none⟩ (.string (bs s))).setCell ⟨w.heap.size + 1, 3, none⟩ pv).heap.size ((((W.setCell ⟨w.heap.size + 1, 0, none⟩ (.int .i64 u)).setCell ⟨w.heap.size + 1, 1, none⟩ nv).setCell ⟨w.heap.size + 1, 2, none⟩ (.string (bs s))).setCell ⟨w.heap.size + 1, 3, none⟩ pv) nv l ∧
    StrsAt ((((W.setCell ⟨w.heap.size + 1, 0, none⟩ (.int .i64 u)).setCell ⟨w.heap.size + 1, 1, none⟩ nv).setCell ⟨w.heap.size + 1, 2, none⟩ (.string (bs s))).setCell ⟨w.heap.size + 1, 3, none⟩ pv).heap.size ((((W.setCell ⟨w.heap.size + 1, 0, none⟩ (.int .i64 u)).setCell ⟨w.heap.size + 1, 1, none⟩ nv).setCell ⟨w.heap.size + 1, 2, none⟩ (.string (bs s))).setCell ⟨w.heap.size + 1, 3, none⟩ pv) pv q ∧
    Below w.heap.size w ((((W.setCell ⟨w.heap.size + 1, 0, none⟩ (.int .i64 u)).setCell ⟨w.heap.size + 1, 1, none⟩ nv).setCell ⟨w.heap.size + 1, 2, none⟩ (.string (bs s))).setCell ⟨w.heap.size + 1, 3, none⟩ pv) := by
  obtain ⟨h1, h2, ⟨h3, h3'⟩, h4, h5⟩ := h
  refine ⟨BoxN.set4 h2 _ _ _ _, ?_, ?_, below_set4 h5 (by omega) _ _ _ _⟩
  · exact (rows_setNe (rows_setNe (rows_setNe (rows_setNe h3 h3' 0 _) h3' 1 _) h3' 2 _) h3' 3 _).mono (by simp [World.setCell])
  · exact (((((h4.setOther (g := w.heap.size + 1) (by omega) 0 (.int .i64 u)).setOther (g := w.heap.size + 1) (by omega) 1 nv).setOther (g := w.heap.size + 1) (by omega) 2 (.string (bs s))).setOther (g := w.heap.size + 1) (by omega) 3 pv).rows strOk).strsK
theorem BentW.set {w : World} {u : Int} {nv pv : Value} {s : List UInt8} {l : List VNote} {q : List Bytes} {W : World} (h : BentW w u nv s pv l q W) : True := trivial
/-- Stores into the page's box. -/
theorem BentR.unit {w : World} {u : Int} {nv pv : Value} {s : List UInt8} {l : List VNote} {q : List Bytes} {W : World} (h : BentR w u nv s pv l q W) (n : Int) : BentR w n nv s pv l q (W.setCell ⟨w.heap.size, 0, none⟩ (.int .i64 n)) :=
  ⟨h.1.set 0 _, BoxN.other h.2.1 (by omega), h.2.2.1.setOther (by omega) 0 _, h.2.2.2.1.setOther (by omega) 0 _, h.2.2.2.2.setCell (p := ⟨w.heap.size, 0, none⟩) (Nat.le_refl _) _⟩
theorem BentR.salt {w : World} {u : Int} {nv pv : Value} {s : List UInt8} {l : List VNote} {q : List Bytes} {W : World} (h : BentR w u nv s pv l q W) (t : List UInt8) : BentR w u nv t pv l q (W.setCell ⟨w.heap.size, 2, none⟩ (.string (bs t))) :=
  ⟨h.1.set 2 _, BoxN.other h.2.1 (by omega), h.2.2.1.setOther (by omega) 2 _, h.2.2.2.1.setOther (by omega) 2 _, h.2.2.2.2.setCell (p := ⟨w.heap.size, 2, none⟩) (Nat.le_refl _) _⟩
/-- Stores into the rows. -/
theorem BentR.note {w : World} {u : Int} {pv : Value} {s : List UInt8} {l : List VNote} {q : List Bytes} {W : World} {g m c : Nat} (h : BentR w u (.slice (some ⟨g, 0, none⟩) m c) s pv l q W) (k f : Nat) (y : VNote) (v : Value) (hk : k < l.length) (hf : f < 4) (he : noteK.enc y = (noteK.enc (l.getD k default)).set f v) :
    BentR w u (.slice (some ⟨g, 0, none⟩) m c) s pv (l.set k y) q (W.setCell ⟨g, k * 4 + f, none⟩ v) := by
  obtain ⟨h1, h2, h3, h4, h5⟩ := h
  have hg := (World.ownsRow.lt h3 g rfl).1
  have hgb := h3.2
  refine ⟨BoxN.other h1 (by omega), BoxN.other h2 (by omega), ownK_storeC noteOk h3 k f y v hk hf he, ?_, h5.setCell (p := ⟨g, k * 4 + f, none⟩) (by show _ ≤ g; omega) _⟩
  rcases hgb with ⟨e, _⟩ | ⟨g', cap, cur, e, _, hc, _⟩
  · cases e
  · cases e
    exact h4.setBox (t := 48) hc (by decide) _ _
theorem BentR.proof {w : World} {u : Int} {nv : Value} {s : List UInt8} {l : List VNote} {q : List Bytes} {W : World} {g m c : Nat} (h : BentR w u nv s (.slice (some ⟨g, 0, none⟩) m c) l q W) (k : Nat) (t : List UInt8) (hk : k < q.length) :
    BentR w u nv s (.slice (some ⟨g, 0, none⟩) m c) l (q.set k t) (W.setCell ⟨g, k, none⟩ (.string (bs t))) := by
  obtain ⟨h1, h2, h3, h4, h5⟩ := h
  have hg := (World.ownsRow.lt h4 g rfl).1
  have hgb := h4.2
  have hs := ownK_storeC strOk h4 k 0 t (.string (bs t)) hk (by decide) rfl
  rw [show k * strK.size + 0 = k from by show k * 1 + 0 = k; omega] at hs
  refine ⟨BoxN.other h1 (by omega), BoxN.other h2 (by omega), ?_, hs, h5.setCell (p := ⟨g, k, none⟩) (by show _ ≤ g; omega) _⟩
  rcases hgb with ⟨e, _⟩ | ⟨g', cap, cur, e, _, hc, _⟩
  · cases e
  · cases e
    exact h3.setBox (t := 9) hc (by decide) _ _
theorem ownK_frozen {α : Type} {K : SK α} {base : Nat} {w : World} {g m c : Nat} {l : List α} (h : OwnK K base w (.slice (some ⟨g, 0, none⟩) m c) l) (j : Nat) : w.frozen? ⟨g, j, none⟩ = false := by
  rcases h.2 with ⟨e, _⟩ | ⟨g', cap, cur, e, _, hc, _⟩
  · cases e
  · cases e
    exact Lib.frozen_of_heap hc j
/-- What the steps of the drawn regions leave. -/
def BntP (B : Nat) (q : Int) (y : VNote) : Nat → Value → World → Prop := fun k v W => if k = 3 then v = .int .i64 q else ∃ g, v = .slice (some ⟨g, 0, none⟩) 1 1 ∧ B ≤ g ∧ OwnK noteK B W v [y]
theorem bntP_kept {B : Nat} {q : Int} {y : VNote} {k : Nat} {v : Value} {W W' : World} (h : BntP B q y k v W) (hg : W.grownBy W' none) : BntP B q y k v W' := by
  unfold BntP at h ⊢
  split at h
  · rename_i hk; rw [if_pos hk]; exact h
  · rename_i hk; rw [if_neg hk]
    obtain ⟨g, rfl, hB, hb⟩ := h
    exact ⟨g, rfl, hB, hb.kept hg (fun g h => by cases h)⟩
/-- What the cut leaves. -/
def BntC (W0 : World) (g : Nat) (D : List VNote) : Value → World → Prop := fun v W => RowsAt noteK W.heap.size W v D ∧ W0.grownBy W none ∧ ∀ b, v.ownBlock = some b → W0.heap.size ≤ b ∨ b = g
theorem bntC_kept {W0 : World} {g : Nat} {D : List VNote} {v : Value} {W W' : World} (h : BntC W0 g D v W) (hg : W.grownBy W' none) : BntC W0 g D v W' :=
  ⟨h.1.later (grown_below hg) (Nat.le_refl _), World.grownBy.trans h.2.1 hg, h.2.2⟩
theorem bentR_grown {w : World} {u : Int} {nv pv : Value} {s : List UInt8} {l : List VNote} {q : List Bytes} {W W' : World} (h : BentR w u nv s pv l q W) (hg : W.grownBy W' none) : BentR w u nv s pv l q W' :=
  ⟨BoxN.grown h.1 hg (by simp), BoxN.grown h.2.1 hg (by simp), h.2.2.1.kept hg (fun g h => by cases h), h.2.2.2.1.kept hg (fun g h => by cases h), h.2.2.2.2.trans ((grown_below hg).mono h.2.2.2.2.size)⟩
theorem bentR_app {w : World} {u : Int} {nv : Value} {s : List UInt8} {l : List VNote} {q q' : List Bytes} {W W8 : World} {qa za : Option Addr} {pn qc zn zc : Nat} {o : Obj} (h : BentR w u nv s (.slice qa pn qc) l q W) (hg : (W.alloc o).grownBy W8 (Value.slice qa pn qc).ownBlock) (hO : OwnK strK (w.heap.size + 2) W8 (.slice za zn zc) q') :
    BoxN w.heap.size 39 #[.int .i64 u, nv, .string (bs s), .slice qa pn qc] W8 ∧ BentR w u nv s (.slice za zn zc) l q' (W8.setCell ⟨w.heap.size, 3, none⟩ (.slice za zn zc)) := by
  obtain ⟨h1, h2, h3, h4, h5⟩ := h
  have hne : ∀ b, (Value.slice qa pn qc).ownBlock = some b → w.heap.size + 2 ≤ b := fun b hb => (World.ownsRow.lt h4 b hb).1
  have hb1 : BoxN w.heap.size 39 #[.int .i64 u, nv, .string (bs s), .slice qa pn qc] W8 := BoxN.grown (h1.alloc o) hg (fun e => by have := hne _ e; omega)
  have hb2 := BoxN.grown (h2.alloc o) hg (fun e => by have := hne _ e; omega)
  have hn : OwnK noteK (w.heap.size + 2) W8 nv l := (h3.kept (World.grownBy_alloc W o none) (fun g h => by cases h)).kept hg (fun b hb e => ?_)
  · refine ⟨hb1, hb1.set 3 _, BoxN.other hb2 (by omega), hn.setOther (by omega) 3 _, hO.setOther (by omega) 3 _, ((h5.alloc h5.size o).trans (Below.mono (B := w.heap.size + 2) ?_ (by omega))).setCell (p := ⟨w.heap.size, 3, none⟩) (Nat.le_refl _) _⟩
    exact (Below.refl _ _).grown hg (by rw [World.size_alloc]; have := h2.lt; omega) hne
  · have k3 := h3.2
    have k4 := h4.2
    rcases k3 with ⟨e3, _⟩ | ⟨g3, c3, cur3, e3, _, hh3, _⟩
    · rw [e3] at e; cases e
    · rcases k4 with ⟨e4, _⟩ | ⟨g4, c4, cur4, e4, _, hh4, _⟩
      · rw [e4] at hb; cases hb
      · rw [e3] at e
        rw [e4] at hb
        cases e
        cases hb
        rw [hh3] at hh4
        have := (Obj.cells.inj (Option.some.inj hh4)).2.1
        exact absurd this (by decide)
theorem bentW_cut {w : World} {u : Int} {nv pv : Value} {s : List UInt8} {l D : List VNote} {q : List Bytes} {W : World} {nv' : Value} (h : BentR w u nv s pv l q W) (hD : RowsAt noteK W.heap.size W nv' D) (hb : ∀ b, nv'.ownBlock = some b → w.heap.size + 2 ≤ b) : BentW w u nv' s pv D q (W.setCell ⟨w.heap.size, 1, none⟩ nv') := by
  obtain ⟨h1, h2, h3, h4, h5⟩ := h
  exact ⟨h1.set 1 _, BoxN.other h2 (by omega), ⟨(rows_setNe hD (fun b e => by have := hb b e; omega) 1 _).mono (by simp [World.setCell]), fun b e => by have := hb b e; omega⟩, h4.setOther (by omega) 1 _, h5.setCell (p := ⟨w.heap.size, 1, none⟩) (Nat.le_refl _) _⟩
set_option maxRecDepth 100000 in
set_option maxHeartbeats 16000000 in
theorem bent_any (u : Int) (nv : Value) (A : List VNote) (s : List UInt8) (pv : Value) (P : List Bytes) (how n : Int) (text : List UInt8) (w : World) (hA : RowsAt noteK w.heap.size w nv A) (hl : A.length ≤ 1000) (hP : StrsAt w.heap.size w pv P) (hpl : P.length ≤ 1000)
    (hh : -9223372036854775808 ≤ how ∧ how ≤ 9223372036854775807) (hn : -9223372036854775808 ≤ n ∧ n ≤ 9223372036854775807) :
    Calls Tryz.prog 23 #[pageV u nv s pv, .int .i64 how, .int .i64 n, .string (bs text)] w fun e w' => ∃ (u' : Int) (nv' : Value) (A' : List VNote) (s' : List UInt8) (pv' : Value) (P' : List Bytes),
      e = .returned (pageV u' nv' s' pv') ∧ RowsAt noteK w'.heap.size w' nv' A' ∧ StrsAt w'.heap.size w' pv' P' ∧ A'.length ≤ A.length + 1 ∧ P'.length ≤ P.length + 1 ∧ (u' = u ∨ u' = n) ∧ Below w.heap.size w w' := by
  obtain ⟨na, nc, rfl, hac, hcm⟩ := hA.shape
  obtain ⟨pa, pc, rfl, hpc1, hpc2⟩ := hP.shape
  unfold maxLen at hcm hpc2
  have hp8 := pickZ_bd how 8 (by omega)
  have HP8 := Lib.hid (fun W => vpickR_any how 8 W hh.1 hh.2 (by omega) (by omega))
  have HP50 := Lib.hid (fun W => vpickR_any n 50 W hn.1 hn.2 (by omega) (by omega))
  have HPk := Lib.hid (fun (m : Nat) (hm : 0 < m ∧ m ≤ 2000) (W : World) => vpickR_any n m W hn.1 hn.2 (by omega) (by omega))
  have HPb := Lib.hid (fun (m : Nat) (hm : 0 < m) => pickZ_bd n m (by omega))
  generalize pickZ how 8 = C at *
  have HAl := Lib.hid hl
  have HPl := Lib.hid hpl
  have HP := Lib.hid hP
  have HA := Lib.hid hA
  generalize hm : A.length = m at *
  have HM := Lib.hid hm
  generalize hpn : P.length = pn at *
  have HPn := Lib.hid hpn
  obtain ⟨V, hV⟩ : ∃ V, V = (w.alloc (.cells #[.int .i64 u, .slice na m nc, .string (bs s), .slice pa pn pc] 39)).alloc (.cells #[.int .i64 0, .slice none 0 0, .string (⟨#[]⟩ : ByteArray), .slice none 0 0] 39) := ⟨_, rfl⟩
  have hBV : Below w.heap.size w V := by rw [hV]; exact ((Below.refl _ _).alloc (Nat.le_refl _) _).alloc (by simp) _
  have hVs : V.heap.size = w.heap.size + 2 := by rw [hV]; simp
  have hX0 : BoxN w.heap.size 39 #[.int .i64 u, .slice na m nc, .string (bs s), .slice pa pn pc] V := by rw [hV]; exact (box_new w _ _).alloc _
  have hR0 : BoxN (w.heap.size + 1) 39 #[.int .i64 0, .slice none 0 0, .string (⟨#[]⟩ : ByteArray), .slice none 0 0] V := by
    rw [hV]
    have := box_new (w.alloc (.cells #[.int .i64 u, .slice na m nc, .string (bs s), .slice pa pn pc] 39)) 39 #[.int .i64 0, .slice none 0 0, .string (⟨#[]⟩ : ByteArray), .slice none 0 0]
    rwa [World.size_alloc] at this
  have hXa := hX0.alloc (.cells #[] 48)
  have q1 := BoxN.cell hXa 1 _ rfl
  rw [hV] at q1
  have HLit : Hid (OwnK noteK V.heap.size (V.alloc (.cells #[] 48)) (.slice (some ⟨w.heap.size + 1 + 1, 0, none⟩) 0 0) []) := by
    rw [show (⟨w.heap.size + 1 + 1, 0, none⟩ : Addr) = ⟨V.heap.size, 0, none⟩ from by rw [hVs]]
    exact ownK_lit0 (K := noteK) V
  have HAV := Lib.hid (hA.later (hBV.alloc (by omega) (.cells #[] 48)) (Nat.le_refl _))
  have HX0 := Lib.hid hX0
  have HR0 := Lib.hid hR0
  have HBV := Lib.hid hBV
  have HVs := Lib.hid hVs
  have HVE := Lib.hid hV
  clear hA hP hh hn hl hpl hm hpn hBV hX0 hR0 hXa hVs hV
  have hcs : C = 0 ∨ C = 1 ∨ C = 2 ∨ C = 3 ∨ C = 4 ∨ C = 5 ∨ C = 6 ∨ C = 7 := by omega
  clear hp8
  have hcase : m = 0 ∨ 0 < m := by omega
  rcases hcase with h0 | h0
  · have m0 : ¬ ((0 : Int) < (m : Int)) := by omega
    clear h0
    go_enter Tryz.func23, Tryz.ntmps23
    go_wp2_with (first | (at_builtin; refine append_KK strOk rfl _ _ rfl (w.heap.size + 2) _ _ _ [] P rfl rfl HLs.out HPs.out (by simp only [List.length_nil]; rw [HPn.out]; have := HPl.out; omega) (by rw [World.size_alloc, World.size_setCell]; have := HVs.out; omega) (w3.setCell ⟨w.heap.size, 1, none⟩ (.slice ma m mc)) ((Below.refl _ _).alloc (by rw [World.size_setCell]; have := HVs.out; omega) _) ?_; intro vq w5 hO5 hg5 hb5; rw [List.nil_append] at hO5; obtain ⟨qa, qc, hvq, hq1, hq2⟩ := hO5.shape; rw [HPn.out] at hvq hq1; subst hvq; have hX6 := BoxN.grown HX5.out hg5 (fun e => by have e1 : some w3.heap.size = some w.heap.size := e; injection e1 with e1; have := HVs.out; omega); have s3 := BoxN.cell hX6 3 _ rfl; have sf := BoxN.frozen hX6; have v1 := BoxN.cell (hX6.set 3 (.slice qa pn qc)) 1 _ rfl; have HX6 := Lib.hid hX6; have HO5 := Lib.hid hO5; have HG5 := Lib.hid hg5; have HB5 := Lib.hid hb5; clear hO5 hg5 hb5 hX6) | (at_builtin; rw [← HVE.out]; refine append_KK noteOk rfl _ _ rfl V.heap.size _ _ _ [] A rfl rfl HLit.out HAV.out (by simp only [List.length_nil]; rw [HM.out]; have := HAl.out; omega) (by simp) V ((Below.refl _ _).alloc (Nat.le_refl _) _) ?_; intro vn w3 hO3 hg3 hb3; rw [List.nil_append] at hO3; obtain ⟨ma, mc, hvn, hn1, hn2⟩ := hO3.shape; rw [HM.out] at hvn hn1; subst hvn; have hX3 := BoxN.below HX0.out hb3 HX0.out.lt; have p1 := BoxN.cell hX3 1 _ rfl; have pf := BoxN.frozen hX3; have hX4 := hX3.set 1 (.slice ma m mc); have hX5 := hX4.alloc (.cells #[] 9); have t3 := BoxN.cell hX5 3 _ rfl; have HX5 := Lib.hid hX5; have HO3 := Lib.hid hO3; have HB3 := Lib.hid hb3; have hz3 := hb3.size; have HLs : Hid (OwnK strK (w.heap.size + 2) ((w3.setCell ⟨w.heap.size, 1, none⟩ (.slice ma m mc)).alloc (.cells #[] 9)) (.slice (some ⟨w3.heap.size, 0, none⟩) 0 0) []) := (by have h := ownK_lit0 (K := strK) (w3.setCell ⟨w.heap.size, 1, none⟩ (.slice ma m mc)); rw [World.size_setCell] at h; exact h.mono (by have := HVs.out; omega)); have HBs : Hid (Below w.heap.size w ((w3.setCell ⟨w.heap.size, 1, none⟩ (.slice ma m mc)).alloc (.cells #[] 9))) := (((HBV.out.trans (hb3.mono HBV.out.size)).setCell (p := ⟨w.heap.size, 1, none⟩) (Nat.le_refl _) _).alloc (by rw [World.size_setCell]; have := HVs.out; omega) _); have HPs := Lib.hid (HP.out.later HBs.out (Nat.le_refl _)).rowsK; clear hO3 hg3 hb3 hX3 hX4 hX5))
    have hR6 : BentR w u (.slice ma m mc) s (.slice qa pn qc) A P (w5.setCell ⟨w.heap.size, 3, none⟩ (.slice qa pn qc)) := by
      have hv := HVs.out
      have hz5 := HG5.out.size
      rw [World.size_alloc, World.size_setCell] at hz5
      have hn := HO3.out.setOther (g := w.heap.size) (by omega) 1 (.slice ma m mc)
      have hn := hn.kept (World.grownBy_alloc _ (.cells #[] 9) none) (fun g h => by cases h)
      have hn := hn.kept HG5.out (fun g hg e => by have e1 : some w3.heap.size = some g := hg; injection e1 with e1; have := (World.ownsRow.lt HO3.out _ e).2; omega)
      have hr := BoxN.below HR0.out HB3.out HR0.out.lt
      have hr := (BoxN.other (g' := w.heap.size) (j := 1) (v := .slice ma m mc) hr (by omega)).alloc (.cells #[] 9)
      have hr := BoxN.grown hr HG5.out (fun e => by have e1 : some w3.heap.size = some (w.heap.size + 1) := e; injection e1 with e1; omega)
      exact ⟨HX6.out.set 3 _, BoxN.other hr (by omega), (hn.setOther (by omega) 3 _).mono (by omega), HO5.out.setOther (by omega) 3 _, (((HBV.out.trans (HB3.out.mono HBV.out.size)).setCell (p := ⟨w.heap.size, 1, none⟩) (Nat.le_refl _) _).trans (HB5.out.mono (by omega))).setCell (p := ⟨w.heap.size, 3, none⟩) (Nat.le_refl _) _⟩
    obtain ⟨W6, hW6⟩ : ∃ W6, W6 = (w5.setCell ⟨w.heap.size, 3, none⟩ (.slice qa pn qc)) := ⟨_, rfl⟩
    rw [← hW6] at hR6 ⊢
    have HR6 := Lib.hid hR6
    clear hR6 hW6 p1 pf t3 s3 sf v1 q1 HX5 HO3 HB3 HLs HBs HPs HX6 HO5 HG5 HB5 HLit HAV HX0 HR0 HVE
    obtain ⟨q, hq⟩ : ∃ q, q = pickZ n 50 := ⟨_, rfl⟩
    rw [← hq] at HP50
    have HQ : Hid (∀ W, W6.grownBy W none → W.cell? ⟨w.heap.size, 0, none⟩ = some (.int .i64 u)) := fun W hW => BoxN.cell (bentR_grown HR6.out hW).1 0 _ rfl
    clear hq
    refine wp_region_calm ⟨[3, 5], BntP W6.heap.size q ⟨u, q, 1, []⟩, fun _ => [], 99, none, 7⟩ (by kernel_rfl) (by kernel_rfl) (by kernel_rfl) (fun g h => by cases h) (fun k hk v W W' c h hg hc => ?_) ?_
    · cases c with
      | some g => obtain ⟨_, _, i, j, u, hd, _⟩ := hc g rfl; simp at hd
      | none => exact bntP_kept h hg
    iterate 3 (refine calm_quiet (v := ?_) (by rfl) (by rfl) (fun W hW hD => ?_) ?_; rotate_left; (· (have z0 := HQ.out W hW; clear hD hW; go_simp; try with_reducible rfl)); simp only [Act.put, List.setIfInBounds_toArray, List.set_cons_zero, List.set_cons_succ, Nat.reduceAdd, Nat.zero_add])
    refine calm_makes (by rfl) (by rfl) (fun W hW hD Kc hK => ?_) (fun v32 => ?_)
    · refine wp_of_call (f := 48) ?_ ((HP50.out W).mono ?_)
      · clear hD hW hK
        go_simp
      · rintro e w5 ⟨rfl, rfl⟩
        exact ⟨_, rfl, hK _ _ (made_plain (by exact (rfl : (Value.int .i64 q) = .int .i64 q)) (Below.refl _ _) rfl)⟩
    simp only [Act.put, List.setIfInBounds_toArray, List.set_cons_zero, List.set_cons_succ, Nat.reduceAdd, Nat.zero_add]
    refine calm_quiet (v := noteV ⟨u, q, 1, []⟩) (by rfl) (by rfl) (fun W hW hD => ?_) ?_
    · obtain rfl : v32 = .int .i64 q := hD [] 3 (by kernel_rfl) (by kernel_rfl) (by kernel_rfl)
      have z0 := HQ.out W hW
      clear hD hW
      go_simp
      try rfl
    simp only [Act.put, List.setIfInBounds_toArray, List.set_cons_zero, List.set_cons_succ, Nat.reduceAdd, Nat.zero_add]
    refine calm_makes (by rfl) (by rfl) (fun W hW hD Kc hK => ?_) (fun v34 => ?_)
    · have hz := hW.size
      refine wp_of_run (v := .slice (some ⟨W.heap.size, 0, none⟩) 1 1) (w' := W.alloc (.cells (noteR ⟨u, q, 1, []⟩) 48)) ?_ (hK _ _ (made_below ⟨_, rfl, hz, (ownK_lit noteOk W [⟨u, q, 1, []⟩] _ rfl (by simp)).mono hz⟩ ((Below.refl _ _).alloc (Nat.le_refl _) _) (fun g hg => by cases hg; simp)))
      clear hD hW hK
      go_simp
    simp only [Act.put, List.setIfInBounds_toArray, List.set_cons_zero, List.set_cons_succ, Nat.reduceAdd, Nat.zero_add]
    iterate 1 (refine calm_quiet (v := ?_) (by rfl) (by rfl) (fun W hW hD => ?_) ?_; rotate_left; (· (clear hD hW; go_simp; try with_reducible rfl)); simp only [Act.put, List.setIfInBounds_toArray, List.set_cons_zero, List.set_cons_succ, Nat.reduceAdd, Nat.zero_add])
    refine calm_tail (by rfl) fun W hW hF => ?_
    obtain ⟨g, hgv, hgB, hgO⟩ : ∃ g, v34 = .slice (some ⟨g, 0, none⟩) 1 1 ∧ W6.heap.size ≤ g ∧ OwnK noteK W6.heap.size W v34 [⟨u, q, 1, []⟩] := hF 5 (by kernel_rfl) (by kernel_rfl)
    subst hgv
    have hR7 := bentR_grown HR6.out hW
    have y1 := BoxN.cell hR7.1 1 _ rfl
    have yf := BoxN.frozen hR7.1
    have hz6 := BoxN.lt HR6.out.2.1
    obtain ⟨W1, hW1⟩ : ∃ X, X = W.setCell ⟨w.heap.size, 1, none⟩ (.slice (some ⟨g, 0, none⟩) 1 1) := ⟨_, rfl⟩
    obtain ⟨L, hL⟩ : ∃ L : List VNote, L = [⟨u, q, 1, []⟩] := ⟨_, rfl⟩
    have HR1 : Hid (BentR w u (.slice (some ⟨g, 0, none⟩) 1 1) s (.slice qa pn qc) L P W1) := by
      rw [hW1, hL]
      exact ⟨hR7.1.set 1 _, BoxN.other hR7.2.1 (by omega), (hgO.mono (by omega)).setOther (by omega) 1 _, hR7.2.2.2.1.setOther (by omega) 1 _, hR7.2.2.2.2.setCell (p := ⟨w.heap.size, 1, none⟩) (Nat.le_refl _) _⟩
    have HLl : Hid (L.length = 1) := by show _ = _; rw [hL]; rfl
    have HLm : Hid (1 ≤ m + 1) := by show _ ≤ _; omega
    have HW1 := Lib.hid hW1
    clear hW1 hL hF hW hgO hR7 HQ hgB hz6 HP50 HR6
    go_wp2_with fail
    rw [← HW1.out]
    clear y1 yf HW1
    rcases hcs with rfl | rfl | rfl | rfl | rfl | rfl | rfl | rfl
    · have b0 := BoxN.cell HR1.out.1 0 _ rfl
      have b1 := BoxN.cell HR1.out.1 1 _ rfl
      have b2 := BoxN.cell HR1.out.1 2 _ rfl
      have b3 := BoxN.cell HR1.out.1 3 _ rfl
      have bf := BoxN.frozen HR1.out.1
      have hN := HR1.out.unit n
      have HF := Lib.hid hN.w.fin
      obtain ⟨hb1, hb2, _⟩ := hN
      have e0 := BoxN.cell hb1 0 _ rfl
      have e1 := BoxN.cell hb1 1 _ rfl
      have e2 := BoxN.cell hb1 2 _ rfl
      have e3 := BoxN.cell hb1 3 _ rfl
      have r0 := BoxN.cell hb2 0 _ rfl
      have r1 := BoxN.cell hb2 1 _ rfl
      have r2 := BoxN.cell hb2 2 _ rfl
      have r3 := BoxN.cell hb2 3 _ rfl
      have rf := BoxN.frozen hb2
      clear hb1 hb2
      go_wp2_with fail
      refine (HP8.out _).mono ?_
      rintro e w' ⟨rfl, rfl⟩
      go_wp2
      have hF := HF.out
      exact bodyPost_ret (v := pageV n (.slice (some ⟨g, 0, none⟩) 1 1) s (.slice qa pn qc)) (by simp [results, Tryz.results23, go_sem, BoxN.cell hF.1 0 _ rfl, BoxN.cell hF.1 1 _ rfl, BoxN.cell hF.1 2 _ rfl, BoxN.cell hF.1 3 _ rfl]) rfl ⟨_, _, L, _, _, P, rfl, hF.2.1, hF.2.2.1, (by have := HLl.out; have := HLm.out; have := HM.out; omega), (by rw [HPn.out]; omega), .inr rfl, hF.2.2.2⟩
    · have HSi := Lib.hid (fun W => run_cutN (some ⟨g, 0, none⟩) 1 1 0 (by omega) W)
      obtain ⟨i1, hi1⟩ : ∃ x, x = 0 + 1 := ⟨_, rfl⟩
      obtain ⟨sa, sc, hsl, hsr⟩ := run_dropN g 1 1 i1 (by omega) (by omega)
      obtain ⟨D, hD⟩ : ∃ x, x = L.take 0 ++ L.drop i1 := ⟨_, rfl⟩
      have HDl : Hid (D.length ≤ L.length) := by show _ ≤ _; rw [hD, List.length_append, List.length_take, List.length_drop, HLl.out]; omega
      have HSl := Lib.hid hsl
      have HSr := Lib.hid hsr
      have HDd := Lib.hid hD
      obtain rfl : i1 = 1 := by omega
      have hgz := World.ownsRow.lt HR1.out.2.2.1 g rfl
      have hgH : w.heap.size + 2 ≤ g := (World.ownsRow.lt HR1.out.2.2.1 g rfl).1
      have HQ : Hid (∀ W, W1.grownBy W (some g) → W.cell? ⟨w.heap.size, 1, none⟩ = some (.slice (some ⟨g, 0, none⟩) 1 1)) := fun W hW => BoxN.cell (BoxN.grown HR1.out.1 hW (fun e => by injection e with e; omega)) 1 _ rfl
      have b0 := BoxN.cell HR1.out.1 0 _ rfl
      have b1 := BoxN.cell HR1.out.1 1 _ rfl
      have b2 := BoxN.cell HR1.out.1 2 _ rfl
      have b3 := BoxN.cell HR1.out.1 3 _ rfl
      clear hsl hsr hD
      go_wp2_with fail
      refine (HP8.out _).mono ?_
      rintro e w' ⟨rfl, rfl⟩
      go_wp2
      clear b0 b1 b2 b3
      refine wp_region_calm ⟨[10], fun _ v W => BntC W1 g D v W, fun _ => [], 10, some g, 12⟩ (by kernel_rfl) (by kernel_rfl) (by kernel_rfl) (fun g h => by cases h; exact hgz.2) (fun q hq v W W' c h hg hc => ?_) ?_
      · cases c with
        | some g => obtain ⟨_, _, i, j, u, hd, _⟩ := hc g rfl; simp at hd
        | none => exact bntC_kept h hg
      iterate 4 (refine calm_quiet (v := ?_) (by rfl) (by rfl) (fun W hW hD => ?_) ?_; rotate_left; (· (have z1 := HQ.out W hW; clear hD hW; go_simp; try with_reducible rfl)); simp only [Act.put, List.setIfInBounds_toArray, List.set_cons_zero, List.set_cons_succ, Nat.reduceAdd, Nat.zero_add])
      refine calm_quiet (v := .slice (some ⟨g, 0, none⟩) 0 0) (by rfl) (by rfl) (fun W hW hD => ?_) ?_
      · have hs := HSi.out W
        clear hD hW
        go_simp
      simp only [Act.put, List.setIfInBounds_toArray, List.set_cons_zero, List.set_cons_succ, Nat.reduceAdd, Nat.zero_add]
      iterate 4 (refine calm_quiet (v := ?_) (by rfl) (by rfl) (fun W hW hD => ?_) ?_; rotate_left; (· (have z1 := HQ.out W hW; clear hD hW; go_simp; try with_reducible rfl)); simp only [Act.put, List.setIfInBounds_toArray, List.set_cons_zero, List.set_cons_succ, Nat.reduceAdd, Nat.zero_add])
      refine calm_quiet (v := .slice sa (1 - 1) sc) (by rfl) (by rfl) (fun W hW hD => ?_) ?_
      · have hs := HSl.out W
        rw [show ((1 : Nat) : Int) = 1 from rfl] at hs
        have wi : IntKind.i64.wrap 1 = 1 := by decide
        clear hD hW
        go_simp
      simp only [Act.put, List.setIfInBounds_toArray, List.set_cons_zero, List.set_cons_succ, Nat.reduceAdd, Nat.zero_add]
      refine calm_makes (by rfl) (by rfl) (fun W hW hD Kc hK => ?_) (fun v67 => ?_)
      · have hW' : W1.grownBy W none := hW
        have hr := (bentR_grown HR1.out hW').2.2.1.rows noteOk
        have h1 := hr.take 0 0 (by rw [HLl.out]; omega) (Nat.le_refl _) (by unfold maxLen; omega)
        have h2 := HSr.out _ W L hr
        refine wp_append_cutK noteOk (.tmp 61) (.tmp 66) rfl g 0 (.slice sa (1 - 1) sc) (L.take 0) (L.drop 1) rfl rfl (Nat.lt_of_lt_of_le hgz.2 hW'.size) (by rw [List.length_take, HLl.out]; omega) h1 h2 (by rw [List.length_take, List.length_drop, HLl.out]; have := HAl.out; omega) (fun v' w' h1 h2 h3 => hK _ _ ⟨⟨by rw [HDd.out]; exact h1, World.grownBy.trans hW' h2, fun b hb => (h3 b hb).2.imp (fun h => Nat.le_trans hW'.size h) (fun e => by cases e; rfl)⟩, ⟨none, h2, .inl rfl⟩, fun b hb => ⟨(h3 b hb).1, (h3 b hb).2.imp id fun e => .inr ⟨rfl, e⟩⟩⟩)
      simp only [Act.put, List.setIfInBounds_toArray, List.set_cons_zero, List.set_cons_succ, Nat.reduceAdd, Nat.zero_add]
      iterate 1 (refine calm_quiet (v := ?_) (by rfl) (by rfl) (fun W hW hD => ?_) ?_; rotate_left; (· (have z1 := HQ.out W hW; clear hD hW; go_simp; try with_reducible rfl)); simp only [Act.put, List.setIfInBounds_toArray, List.set_cons_zero, List.set_cons_succ, Nat.reduceAdd, Nat.zero_add])
      refine calm_tail (by rfl) fun W hW hF => ?_
      obtain ⟨hRd, hgn, hbl⟩ : BntC W1 g D v67 W := hF 10 (by kernel_rfl) (by kernel_rfl)
      obtain ⟨da, dc, hv, hd1, hd2⟩ := hRd.shape
      subst hv
      generalize hdn : D.length = dn at *
      have HDn := Lib.hid hdn
      clear hdn
      have hR2 := bentR_grown HR1.out hgn
      have c0 := BoxN.cell hR2.1 1 _ rfl
      have cf := BoxN.frozen hR2.1
      have hN := bentW_cut hR2 hRd (fun b hb => by have := hbl b hb; have := (BoxN.lt HR1.out.2.1); omega)
      have HF := Lib.hid hN.fin
      obtain ⟨hb1, hb2, _⟩ := hN
      have e0 := BoxN.cell hb1 0 _ rfl
      have e1 := BoxN.cell hb1 1 _ rfl
      have e2 := BoxN.cell hb1 2 _ rfl
      have e3 := BoxN.cell hb1 3 _ rfl
      have r0 := BoxN.cell hb2 0 _ rfl
      have r1 := BoxN.cell hb2 1 _ rfl
      have r2 := BoxN.cell hb2 2 _ rfl
      have r3 := BoxN.cell hb2 3 _ rfl
      have rf := BoxN.frozen hb2
      clear hb1 hb2
      clear hR2 hF hW HQ hRd hgn hbl HSi HSl HSr HDd
      go_wp2
      have hF := HF.out
      exact bodyPost_ret (v := pageV u (.slice da dn dc) s (.slice qa pn qc)) (by simp [results, Tryz.results23, go_sem, BoxN.cell hF.1 0 _ rfl, BoxN.cell hF.1 1 _ rfl, BoxN.cell hF.1 2 _ rfl, BoxN.cell hF.1 3 _ rfl]) rfl ⟨_, _, D, _, _, P, rfl, hF.2.1, hF.2.2.1, (by rw [HDn.out]; have := HDl.out; rw [HLl.out] at this; have := HLm.out; omega), (by rw [HPn.out]; omega), .inl rfl, hF.2.2.2⟩
    · have b0 := BoxN.cell HR1.out.1 0 _ rfl
      have b1 := BoxN.cell HR1.out.1 1 _ rfl
      have b2 := BoxN.cell HR1.out.1 2 _ rfl
      have b3 := BoxN.cell HR1.out.1 3 _ rfl
      have bf := BoxN.frozen HR1.out.1
      obtain ⟨x, hx⟩ : ∃ x, x = L.getD 0 default := ⟨_, rfl⟩
      have hget : L[0]? = some x := by rw [hx, List.getD_eq_getElem?_getD, List.getElem?_eq_getElem (by rw [HLl.out]; omega)]; rfl
      have hat := notes_el (HR1.out.2.2.1.rows noteOk) 0 x hget
      simp only [Nat.zero_add, Nat.zero_mul] at hat
      obtain ⟨x0, x1, x2, x3⟩ := hat
      have xf := ownK_frozen HR1.out.2.2.1
      have hN := HR1.out.note 0 1 ⟨x.unit, n, x.kind, x.text⟩ (.int .i64 n) (by rw [HLl.out]; omega) (by decide) (by rw [← hx]; rfl)
      simp only [Nat.zero_add, Nat.zero_mul] at hN
      have HF := Lib.hid hN.w.fin
      obtain ⟨hb1, hb2, _⟩ := hN
      have e0 := BoxN.cell hb1 0 _ rfl
      have e1 := BoxN.cell hb1 1 _ rfl
      have e2 := BoxN.cell hb1 2 _ rfl
      have e3 := BoxN.cell hb1 3 _ rfl
      have r0 := BoxN.cell hb2 0 _ rfl
      have r1 := BoxN.cell hb2 1 _ rfl
      have r2 := BoxN.cell hb2 2 _ rfl
      have r3 := BoxN.cell hb2 3 _ rfl
      have rf := BoxN.frozen hb2
      clear hb1 hb2
      clear hx hget
      go_wp2_with fail
      refine (HP8.out _).mono ?_
      rintro e w' ⟨rfl, rfl⟩
      go_wp2
      have hF := HF.out
      exact bodyPost_ret (v := pageV u (.slice (some ⟨g, 0, none⟩) 1 1) s (.slice qa pn qc)) (by simp [results, Tryz.results23, go_sem, BoxN.cell hF.1 0 _ rfl, BoxN.cell hF.1 1 _ rfl, BoxN.cell hF.1 2 _ rfl, BoxN.cell hF.1 3 _ rfl]) rfl ⟨_, _, (L.set 0 ⟨x.unit, n, x.kind, x.text⟩), _, _, P, rfl, hF.2.1, hF.2.2.1, (by rw [List.length_set]; have := HLl.out; have := HLm.out; omega), (by rw [HPn.out]; omega), .inl rfl, hF.2.2.2⟩
    · have b0 := BoxN.cell HR1.out.1 0 _ rfl
      have b1 := BoxN.cell HR1.out.1 1 _ rfl
      have b2 := BoxN.cell HR1.out.1 2 _ rfl
      have b3 := BoxN.cell HR1.out.1 3 _ rfl
      have bf := BoxN.frozen HR1.out.1
      obtain ⟨x, hx⟩ : ∃ x, x = L.getD 0 default := ⟨_, rfl⟩
      have hget : L[0]? = some x := by rw [hx, List.getD_eq_getElem?_getD, List.getElem?_eq_getElem (by rw [HLl.out]; omega)]; rfl
      have hat := notes_el (HR1.out.2.2.1.rows noteOk) 0 x hget
      simp only [Nat.zero_add, Nat.zero_mul] at hat
      obtain ⟨x0, x1, x2, x3⟩ := hat
      have xf := ownK_frozen HR1.out.2.2.1
      have hN := HR1.out.note 0 3 ⟨x.unit, x.day, x.kind, text⟩ (.string (bs text)) (by rw [HLl.out]; omega) (by decide) (by rw [← hx]; rfl)
      simp only [Nat.zero_add, Nat.zero_mul] at hN
      have HF := Lib.hid hN.w.fin
      obtain ⟨hb1, hb2, _⟩ := hN
      have e0 := BoxN.cell hb1 0 _ rfl
      have e1 := BoxN.cell hb1 1 _ rfl
      have e2 := BoxN.cell hb1 2 _ rfl
      have e3 := BoxN.cell hb1 3 _ rfl
      have r0 := BoxN.cell hb2 0 _ rfl
      have r1 := BoxN.cell hb2 1 _ rfl
      have r2 := BoxN.cell hb2 2 _ rfl
      have r3 := BoxN.cell hb2 3 _ rfl
      have rf := BoxN.frozen hb2
      clear hb1 hb2
      clear hx hget
      go_wp2_with fail
      refine (HP8.out _).mono ?_
      rintro e w' ⟨rfl, rfl⟩
      go_wp2
      have hF := HF.out
      exact bodyPost_ret (v := pageV u (.slice (some ⟨g, 0, none⟩) 1 1) s (.slice qa pn qc)) (by simp [results, Tryz.results23, go_sem, BoxN.cell hF.1 0 _ rfl, BoxN.cell hF.1 1 _ rfl, BoxN.cell hF.1 2 _ rfl, BoxN.cell hF.1 3 _ rfl]) rfl ⟨_, _, (L.set 0 ⟨x.unit, x.day, x.kind, text⟩), _, _, P, rfl, hF.2.1, hF.2.2.1, (by rw [List.length_set]; have := HLl.out; have := HLm.out; omega), (by rw [HPn.out]; omega), .inl rfl, hF.2.2.2⟩
    · have b0 := BoxN.cell HR1.out.1 0 _ rfl
      have b1 := BoxN.cell HR1.out.1 1 _ rfl
      have b2 := BoxN.cell HR1.out.1 2 _ rfl
      have b3 := BoxN.cell HR1.out.1 3 _ rfl
      have bf := BoxN.frozen HR1.out.1
      have hN := HR1.out.salt text
      have HF := Lib.hid hN.w.fin
      obtain ⟨hb1, hb2, _⟩ := hN
      have e0 := BoxN.cell hb1 0 _ rfl
      have e1 := BoxN.cell hb1 1 _ rfl
      have e2 := BoxN.cell hb1 2 _ rfl
      have e3 := BoxN.cell hb1 3 _ rfl
      have r0 := BoxN.cell hb2 0 _ rfl
      have r1 := BoxN.cell hb2 1 _ rfl
      have r2 := BoxN.cell hb2 2 _ rfl
      have r3 := BoxN.cell hb2 3 _ rfl
      have rf := BoxN.frozen hb2
      clear hb1 hb2
      go_wp2_with fail
      refine (HP8.out _).mono ?_
      rintro e w' ⟨rfl, rfl⟩
      go_wp2
      have hF := HF.out
      exact bodyPost_ret (v := pageV u (.slice (some ⟨g, 0, none⟩) 1 1) text (.slice qa pn qc)) (by simp [results, Tryz.results23, go_sem, BoxN.cell hF.1 0 _ rfl, BoxN.cell hF.1 1 _ rfl, BoxN.cell hF.1 2 _ rfl, BoxN.cell hF.1 3 _ rfl]) rfl ⟨_, _, L, _, _, P, rfl, hF.2.1, hF.2.2.1, (by have := HLl.out; have := HLm.out; have := HM.out; omega), (by rw [HPn.out]; omega), .inl rfl, hF.2.2.2⟩
    · have b0 := BoxN.cell HR1.out.1 0 _ rfl
      have b1 := BoxN.cell HR1.out.1 1 _ rfl
      have b2 := BoxN.cell HR1.out.1 2 _ rfl
      have b3 := BoxN.cell HR1.out.1 3 _ rfl
      have bf := BoxN.frozen HR1.out.1
      obtain ⟨x, hx⟩ : ∃ x, x = L.getD 0 default := ⟨_, rfl⟩
      have hget : L[0]? = some x := by rw [hx, List.getD_eq_getElem?_getD, List.getElem?_eq_getElem (by rw [HLl.out]; omega)]; rfl
      have hat := notes_el (HR1.out.2.2.1.rows noteOk) 0 x hget
      simp only [Nat.zero_add, Nat.zero_mul] at hat
      obtain ⟨x0, x1, x2, x3⟩ := hat
      have xf := ownK_frozen HR1.out.2.2.1
      have hN := HR1.out.note 0 0 ⟨n, x.day, x.kind, x.text⟩ (.int .i64 n) (by rw [HLl.out]; omega) (by decide) (by rw [← hx]; rfl)
      simp only [Nat.zero_add, Nat.zero_mul] at hN
      have HF := Lib.hid hN.w.fin
      obtain ⟨hb1, hb2, _⟩ := hN
      have e0 := BoxN.cell hb1 0 _ rfl
      have e1 := BoxN.cell hb1 1 _ rfl
      have e2 := BoxN.cell hb1 2 _ rfl
      have e3 := BoxN.cell hb1 3 _ rfl
      have r0 := BoxN.cell hb2 0 _ rfl
      have r1 := BoxN.cell hb2 1 _ rfl
      have r2 := BoxN.cell hb2 2 _ rfl
      have r3 := BoxN.cell hb2 3 _ rfl
      have rf := BoxN.frozen hb2
      clear hb1 hb2
      clear hx hget
      go_wp2_with fail
      refine (HP8.out _).mono ?_
      rintro e w' ⟨rfl, rfl⟩
      go_wp2
      have hF := HF.out
      exact bodyPost_ret (v := pageV u (.slice (some ⟨g, 0, none⟩) 1 1) s (.slice qa pn qc)) (by simp [results, Tryz.results23, go_sem, BoxN.cell hF.1 0 _ rfl, BoxN.cell hF.1 1 _ rfl, BoxN.cell hF.1 2 _ rfl, BoxN.cell hF.1 3 _ rfl]) rfl ⟨_, _, (L.set 0 ⟨n, x.day, x.kind, x.text⟩), _, _, P, rfl, hF.2.1, hF.2.2.1, (by rw [List.length_set]; have := HLl.out; have := HLm.out; omega), (by rw [HPn.out]; omega), .inl rfl, hF.2.2.2⟩
    · have b0 := BoxN.cell HR1.out.1 0 _ rfl
      have b1 := BoxN.cell HR1.out.1 1 _ rfl
      have b2 := BoxN.cell HR1.out.1 2 _ rfl
      have b3 := BoxN.cell HR1.out.1 3 _ rfl
      have bf := BoxN.frozen HR1.out.1
      have HX := Lib.hid HR1.out
      have hXb := HR1.out.1.alloc (.cells #[.string (bs text)] 9)
      have c3 := BoxN.cell hXb 3 _ rfl
      have HL1 : Hid (RowsAt strK (W1.alloc (.cells #[.string (bs text)] 9)).heap.size (W1.alloc (.cells #[.string (bs text)] 9)) (.slice (some ⟨W1.heap.size, 0, none⟩) 1 1) [text]) := (ownK_lit strOk W1 [text] _ rfl (by simp)).rows strOk
      have HOp : Hid (OwnK strK (w.heap.size + 2) (W1.alloc (.cells #[.string (bs text)] 9)) (.slice qa pn qc) P) := HR1.out.2.2.2.1.kept (World.grownBy_alloc _ _ none) (fun g h => by cases h)
      have hz1 := BoxN.lt HR1.out.2.1
      clear hXb
      go_wp2_with fail
      refine (HP8.out _).mono ?_
      rintro e w' ⟨rfl, rfl⟩
      go_wp2_with (at_builtin; refine append_KK strOk rfl _ _ rfl (w.heap.size + 2) _ _ _ P [text] rfl rfl HOp.out HL1.out (by rw [HPn.out]; simp; have := HPl.out; omega) (by rw [World.size_alloc]; omega) W1 ((Below.refl _ _).alloc (by omega) _) ?_; intro vz w8 hO8 hg8 hb8; obtain ⟨za, zc, hvz, _, _⟩ := hO8.shape; rw [List.length_append, HPn.out, List.length_singleton] at hvz; subst hvz; have hN := bentR_app HX.out hg8 hO8; have z3 := BoxN.cell hN.1 3 _ rfl; have zf := BoxN.frozen hN.1; have hN := hN.2; have HF := Lib.hid hN.w.fin; obtain ⟨hb1, hb2, _⟩ := hN; have e0 := BoxN.cell hb1 0 _ rfl; have e1 := BoxN.cell hb1 1 _ rfl; have e2 := BoxN.cell hb1 2 _ rfl; have e3 := BoxN.cell hb1 3 _ rfl; have r0 := BoxN.cell hb2 0 _ rfl; have r1 := BoxN.cell hb2 1 _ rfl; have r2 := BoxN.cell hb2 2 _ rfl; have r3 := BoxN.cell hb2 3 _ rfl; have rf := BoxN.frozen hb2; clear hb1 hb2 hN hO8 hg8 hb8 c3)
      have hF := HF.out
      exact bodyPost_ret (v := pageV u (.slice (some ⟨g, 0, none⟩) 1 1) s (.slice za (pn + 1) zc)) (by simp [results, Tryz.results23, go_sem, BoxN.cell hF.1 0 _ rfl, BoxN.cell hF.1 1 _ rfl, BoxN.cell hF.1 2 _ rfl, BoxN.cell hF.1 3 _ rfl]) rfl ⟨_, _, L, _, _, (P ++ [text]), rfl, hF.2.1, hF.2.2.1, (by have := HLl.out; have := HLm.out; have := HM.out; omega), (by rw [List.length_append, HPn.out, List.length_singleton]; omega), .inl rfl, hF.2.2.2⟩
    · by_cases hq0 : 0 < pn
      · have dq : (0 : Int) < (pn : Int) := by omega
        obtain ⟨gq, qc', hqv, hgq1, hgq2, _, _⟩ := HR1.out.2.2.2.1.some (by rw [HPn.out]; exact hq0)
        rw [HPn.out] at hqv
        obtain ⟨hqa, _, hqcc⟩ := Value.slice.inj hqv
        subst hqa
        obtain ⟨j, hj⟩ := Int.eq_ofNat_of_zero_le (HPb.out pn hq0).1
        have hjb := (HPb.out pn hq0).2
        rw [hj] at hjb
        have HPj := Lib.hid (fun W => HPk.out pn ⟨hq0, by have := HPl.out; omega⟩ W)
        rw [hj] at HPj
        have jl : (j : Int) < (pn : Int) := by omega
        have j0 : 0 ≤ (j : Int) := by omega
        have b0 := BoxN.cell HR1.out.1 0 _ rfl
        have b1 := BoxN.cell HR1.out.1 1 _ rfl
        have b2 := BoxN.cell HR1.out.1 2 _ rfl
        have b3 := BoxN.cell HR1.out.1 3 _ rfl
        have HQ : Hid (∀ W, W1.grownBy W none → BentR w u (.slice (some ⟨g, 0, none⟩) 1 1) s (.slice (some ⟨gq, 0, none⟩) pn qc) L P W) := fun W hW => bentR_grown HR1.out hW
        clear hj hqv hqcc
        go_wp2_with fail
        refine (HP8.out _).mono ?_
        rintro e w' ⟨rfl, rfl⟩
        go_wp2
        refine wp_region_calm ⟨[6], fun q v _ => v = .int .i64 (j : Int), fun _ => [], 99, none, 9⟩ (by kernel_rfl) (by kernel_rfl) (by kernel_rfl) (fun g h => by cases h) (fun q hq v W W' c h hg hc => h) ?_
        iterate 6 (refine calm_quiet (v := ?_) (by rfl) (by rfl) (fun W hW hD => ?_) ?_; rotate_left; (· (have hbx := (HQ.out W hW).1; have z3 := BoxN.cell hbx 3 _ rfl; clear hD hW hbx; go_simp; try with_reducible rfl)); simp only [Act.put, List.setIfInBounds_toArray, List.set_cons_zero, List.set_cons_succ, Nat.reduceAdd, Nat.zero_add])
        refine calm_makes (by rfl) (by rfl) (fun W hW hD Kc hK => ?_) (fun v48 => ?_)
        · refine wp_of_call (f := 48) ?_ ((HPj.out W).mono ?_)
          · clear hD hW hK
            go_simp
          · rintro e w5 ⟨rfl, rfl⟩
            exact ⟨_, rfl, hK _ _ (made_plain (by exact (rfl : (Value.int .i64 (j : Int)) = .int .i64 (j : Int))) (Below.refl _ _) rfl)⟩
        simp only [Act.put, List.setIfInBounds_toArray, List.set_cons_zero, List.set_cons_succ, Nat.reduceAdd, Nat.zero_add]
        iterate 1 (refine calm_quiet (v := ?_) (by rfl) (by rfl) (fun W hW hD => ?_) ?_; rotate_left; (· (clear hD hW; go_simp; try with_reducible rfl)); simp only [Act.put, List.setIfInBounds_toArray, List.set_cons_zero, List.set_cons_succ, Nat.reduceAdd, Nat.zero_add])
        refine calm_quiet (v := .pointer (some ⟨gq, j, none⟩)) (by rfl) (by rfl) (fun W hW hD => ?_) ?_
        · obtain rfl : v48 = .int .i64 (j : Int) := hD [] 6 (by kernel_rfl) (by kernel_rfl) (by kernel_rfl)
          clear hD hW
          go_simp
        simp only [Act.put, List.setIfInBounds_toArray, List.set_cons_zero, List.set_cons_succ, Nat.reduceAdd, Nat.zero_add]
        refine calm_tail (by rfl) fun W hW hF => ?_
        have hR2 := HQ.out W hW
        have hjc : W.cell? ⟨gq, j, none⟩ = some (.string (bs (P.getD j []))) := by
          have h := (hR2.2.2.2.1.rows strOk).strsK
          obtain ⟨b, o, hbe, _, hc⟩ := h.at j (by rw [HPn.out]; omega)
          cases hbe
          rwa [Nat.zero_add] at hc
        have jf := ownK_frozen hR2.2.2.2.1
        have hN := hR2.proof j text (by rw [HPn.out]; omega)
        have HF := Lib.hid hN.w.fin
        obtain ⟨hb1, hb2, _⟩ := hN
        have e0 := BoxN.cell hb1 0 _ rfl
        have e1 := BoxN.cell hb1 1 _ rfl
        have e2 := BoxN.cell hb1 2 _ rfl
        have e3 := BoxN.cell hb1 3 _ rfl
        have r0 := BoxN.cell hb2 0 _ rfl
        have r1 := BoxN.cell hb2 1 _ rfl
        have r2 := BoxN.cell hb2 2 _ rfl
        have r3 := BoxN.cell hb2 3 _ rfl
        have rf := BoxN.frozen hb2
        clear hb1 hb2
        clear hR2 hF hW HQ
        go_wp2
        have hF := HF.out
        exact bodyPost_ret (v := pageV u (.slice (some ⟨g, 0, none⟩) 1 1) s (.slice (some ⟨gq, 0, none⟩) pn qc)) (by simp [results, Tryz.results23, go_sem, BoxN.cell hF.1 0 _ rfl, BoxN.cell hF.1 1 _ rfl, BoxN.cell hF.1 2 _ rfl, BoxN.cell hF.1 3 _ rfl]) rfl ⟨_, _, L, _, _, (P.set j text), rfl, hF.2.1, hF.2.2.1, (by have := HLl.out; have := HLm.out; have := HM.out; omega), (by rw [List.length_set, HPn.out]; omega), .inl rfl, hF.2.2.2⟩
      · have dq : ¬ ((0 : Int) < (pn : Int)) := by omega
        have b0 := BoxN.cell HR1.out.1 0 _ rfl
        have b1 := BoxN.cell HR1.out.1 1 _ rfl
        have b2 := BoxN.cell HR1.out.1 2 _ rfl
        have b3 := BoxN.cell HR1.out.1 3 _ rfl
        have HF := Lib.hid HR1.out.w.fin
        obtain ⟨_, hb2, _⟩ := HR1.out
        have r0 := BoxN.cell hb2 0 _ rfl
        have r1 := BoxN.cell hb2 1 _ rfl
        have r2 := BoxN.cell hb2 2 _ rfl
        have r3 := BoxN.cell hb2 3 _ rfl
        have rf := BoxN.frozen hb2
        clear hb2 hq0
        go_wp2_with fail
        refine (HP8.out _).mono ?_
        rintro e w' ⟨rfl, rfl⟩
        go_wp2
        have hF := HF.out
        exact bodyPost_ret (v := pageV u (.slice (some ⟨g, 0, none⟩) 1 1) s (.slice qa pn qc)) (by simp [results, Tryz.results23, go_sem, BoxN.cell hF.1 0 _ rfl, BoxN.cell hF.1 1 _ rfl, BoxN.cell hF.1 2 _ rfl, BoxN.cell hF.1 3 _ rfl]) rfl ⟨_, _, L, _, _, P, rfl, hF.2.1, hF.2.2.1, (by have := HLl.out; have := HLm.out; have := HM.out; omega), (by rw [HPn.out]; omega), .inl rfl, hF.2.2.2⟩
  · have m0 : (0 : Int) < (m : Int) := by omega
    go_enter Tryz.func23, Tryz.ntmps23
    obtain ⟨k, hk⟩ := Int.eq_ofNat_of_zero_le (HPb.out m h0).1
    have hkm := (HPb.out m h0).2
    have HPm := Lib.hid (fun W => HPk.out m ⟨h0, by have := HAl.out; omega⟩ W)
    rw [hk] at HPm hkm
    have k0 : 0 ≤ (k : Int) := by omega
    have kml : k < m := by omega
    clear hk
    go_wp2_with (first | (at_builtin; refine append_KK strOk rfl _ _ rfl (w.heap.size + 2) _ _ _ [] P rfl rfl HLs.out HPs.out (by simp only [List.length_nil]; rw [HPn.out]; have := HPl.out; omega) (by rw [World.size_alloc, World.size_setCell]; have := HVs.out; omega) (w3.setCell ⟨w.heap.size, 1, none⟩ (.slice ma m mc)) ((Below.refl _ _).alloc (by rw [World.size_setCell]; have := HVs.out; omega) _) ?_; intro vq w5 hO5 hg5 hb5; rw [List.nil_append] at hO5; obtain ⟨qa, qc, hvq, hq1, hq2⟩ := hO5.shape; rw [HPn.out] at hvq hq1; subst hvq; have hX6 := BoxN.grown HX5.out hg5 (fun e => by have e1 : some w3.heap.size = some w.heap.size := e; injection e1 with e1; have := HVs.out; omega); have s3 := BoxN.cell hX6 3 _ rfl; have sf := BoxN.frozen hX6; have v1 := BoxN.cell (hX6.set 3 (.slice qa pn qc)) 1 _ rfl; have HX6 := Lib.hid hX6; have HO5 := Lib.hid hO5; have HG5 := Lib.hid hg5; have HB5 := Lib.hid hb5; clear hO5 hg5 hb5 hX6) | (at_builtin; rw [← HVE.out]; refine append_KK noteOk rfl _ _ rfl V.heap.size _ _ _ [] A rfl rfl HLit.out HAV.out (by simp only [List.length_nil]; rw [HM.out]; have := HAl.out; omega) (by simp) V ((Below.refl _ _).alloc (Nat.le_refl _) _) ?_; intro vn w3 hO3 hg3 hb3; rw [List.nil_append] at hO3; obtain ⟨ma, mc, hvn, hn1, hn2⟩ := hO3.shape; rw [HM.out] at hvn hn1; subst hvn; have hX3 := BoxN.below HX0.out hb3 HX0.out.lt; have p1 := BoxN.cell hX3 1 _ rfl; have pf := BoxN.frozen hX3; have hX4 := hX3.set 1 (.slice ma m mc); have hX5 := hX4.alloc (.cells #[] 9); have t3 := BoxN.cell hX5 3 _ rfl; have HX5 := Lib.hid hX5; have HO3 := Lib.hid hO3; have HB3 := Lib.hid hb3; have hz3 := hb3.size; have HLs : Hid (OwnK strK (w.heap.size + 2) ((w3.setCell ⟨w.heap.size, 1, none⟩ (.slice ma m mc)).alloc (.cells #[] 9)) (.slice (some ⟨w3.heap.size, 0, none⟩) 0 0) []) := (by have h := ownK_lit0 (K := strK) (w3.setCell ⟨w.heap.size, 1, none⟩ (.slice ma m mc)); rw [World.size_setCell] at h; exact h.mono (by have := HVs.out; omega)); have HBs : Hid (Below w.heap.size w ((w3.setCell ⟨w.heap.size, 1, none⟩ (.slice ma m mc)).alloc (.cells #[] 9))) := (((HBV.out.trans (hb3.mono HBV.out.size)).setCell (p := ⟨w.heap.size, 1, none⟩) (Nat.le_refl _) _).alloc (by rw [World.size_setCell]; have := HVs.out; omega) _); have HPs := Lib.hid (HP.out.later HBs.out (Nat.le_refl _)).rowsK; clear hO3 hg3 hb3 hX3 hX4 hX5))
    have hR6 : BentR w u (.slice ma m mc) s (.slice qa pn qc) A P (w5.setCell ⟨w.heap.size, 3, none⟩ (.slice qa pn qc)) := by
      have hv := HVs.out
      have hz5 := HG5.out.size
      rw [World.size_alloc, World.size_setCell] at hz5
      have hn := HO3.out.setOther (g := w.heap.size) (by omega) 1 (.slice ma m mc)
      have hn := hn.kept (World.grownBy_alloc _ (.cells #[] 9) none) (fun g h => by cases h)
      have hn := hn.kept HG5.out (fun g hg e => by have e1 : some w3.heap.size = some g := hg; injection e1 with e1; have := (World.ownsRow.lt HO3.out _ e).2; omega)
      have hr := BoxN.below HR0.out HB3.out HR0.out.lt
      have hr := (BoxN.other (g' := w.heap.size) (j := 1) (v := .slice ma m mc) hr (by omega)).alloc (.cells #[] 9)
      have hr := BoxN.grown hr HG5.out (fun e => by have e1 : some w3.heap.size = some (w.heap.size + 1) := e; injection e1 with e1; omega)
      exact ⟨HX6.out.set 3 _, BoxN.other hr (by omega), (hn.setOther (by omega) 3 _).mono (by omega), HO5.out.setOther (by omega) 3 _, (((HBV.out.trans (HB3.out.mono HBV.out.size)).setCell (p := ⟨w.heap.size, 1, none⟩) (Nat.le_refl _) _).trans (HB5.out.mono (by omega))).setCell (p := ⟨w.heap.size, 3, none⟩) (Nat.le_refl _) _⟩
    obtain ⟨g, gc, hgv, hg1, hg2, _, _⟩ := hR6.2.2.1.some (by rw [HM.out]; exact h0)
    rw [HM.out] at hgv
    obtain ⟨hgm, _, hgcc⟩ := Value.slice.inj hgv
    subst hgm
    obtain ⟨W1, hW1⟩ : ∃ W6, W6 = (w5.setCell ⟨w.heap.size, 3, none⟩ (.slice qa pn qc)) := ⟨_, rfl⟩
    rw [← hW1] at hR6 ⊢
    have HR1 := Lib.hid hR6
    have HLl : Hid (A.length = m) := HM.out
    have HLm : Hid (m ≤ m + 1) := by show _ ≤ _; omega
    clear hR6 hW1 p1 pf t3 s3 sf v1 q1 HX5 HO3 HB3 HLs HBs HPs HX6 HO5 HG5 HB5 HLit HAV HX0 HR0 HVE hgv hgcc HP50
    generalize hAL : A = L at *
    clear hAL
    refine (HPm.out _).mono ?_
    rintro e w' ⟨rfl, rfl⟩
    rcases hcs with rfl | rfl | rfl | rfl | rfl | rfl | rfl | rfl
    · have b0 := BoxN.cell HR1.out.1 0 _ rfl
      have b1 := BoxN.cell HR1.out.1 1 _ rfl
      have b2 := BoxN.cell HR1.out.1 2 _ rfl
      have b3 := BoxN.cell HR1.out.1 3 _ rfl
      have bf := BoxN.frozen HR1.out.1
      have hN := HR1.out.unit n
      have HF := Lib.hid hN.w.fin
      obtain ⟨hb1, hb2, _⟩ := hN
      have e0 := BoxN.cell hb1 0 _ rfl
      have e1 := BoxN.cell hb1 1 _ rfl
      have e2 := BoxN.cell hb1 2 _ rfl
      have e3 := BoxN.cell hb1 3 _ rfl
      have r0 := BoxN.cell hb2 0 _ rfl
      have r1 := BoxN.cell hb2 1 _ rfl
      have r2 := BoxN.cell hb2 2 _ rfl
      have r3 := BoxN.cell hb2 3 _ rfl
      have rf := BoxN.frozen hb2
      clear hb1 hb2
      go_wp2_with fail
      refine (HP8.out _).mono ?_
      rintro e w' ⟨rfl, rfl⟩
      go_wp2
      have hF := HF.out
      exact bodyPost_ret (v := pageV n (.slice (some ⟨g, 0, none⟩) m mc) s (.slice qa pn qc)) (by simp [results, Tryz.results23, go_sem, BoxN.cell hF.1 0 _ rfl, BoxN.cell hF.1 1 _ rfl, BoxN.cell hF.1 2 _ rfl, BoxN.cell hF.1 3 _ rfl]) rfl ⟨_, _, L, _, _, P, rfl, hF.2.1, hF.2.2.1, (by have := HLl.out; have := HLm.out; have := HM.out; omega), (by rw [HPn.out]; omega), .inr rfl, hF.2.2.2⟩
    · have HSi := Lib.hid (fun W => run_cutN (some ⟨g, 0, none⟩) m mc k (by omega) W)
      obtain ⟨i1, hi1⟩ : ∃ x, x = k + 1 := ⟨_, rfl⟩
      obtain ⟨sa, sc, hsl, hsr⟩ := run_dropN g m mc i1 (by omega) (by omega)
      have wi : IntKind.i64.wrap ((k : Int) + 1) = (i1 : Int) := by rw [IntWalk.i64_in _ (by omega)]; omega
      obtain ⟨D, hD⟩ : ∃ x, x = L.take k ++ L.drop i1 := ⟨_, rfl⟩
      have HDl : Hid (D.length ≤ L.length) := by show _ ≤ _; rw [hD, List.length_append, List.length_take, List.length_drop, HLl.out]; omega
      have HSl := Lib.hid hsl
      have HSr := Lib.hid hsr
      have HDd := Lib.hid hD
      have hgz := World.ownsRow.lt HR1.out.2.2.1 g rfl
      have hgH : w.heap.size + 2 ≤ g := (World.ownsRow.lt HR1.out.2.2.1 g rfl).1
      have HQ : Hid (∀ W, W1.grownBy W (some g) → W.cell? ⟨w.heap.size, 1, none⟩ = some (.slice (some ⟨g, 0, none⟩) m mc)) := fun W hW => BoxN.cell (BoxN.grown HR1.out.1 hW (fun e => by injection e with e; omega)) 1 _ rfl
      have b0 := BoxN.cell HR1.out.1 0 _ rfl
      have b1 := BoxN.cell HR1.out.1 1 _ rfl
      have b2 := BoxN.cell HR1.out.1 2 _ rfl
      have b3 := BoxN.cell HR1.out.1 3 _ rfl
      clear hsl hsr hD hi1
      go_wp2_with fail
      refine (HP8.out _).mono ?_
      rintro e w' ⟨rfl, rfl⟩
      go_wp2
      clear b0 b1 b2 b3
      refine wp_region_calm ⟨[10], fun _ v W => BntC W1 g D v W, fun _ => [], 10, some g, 12⟩ (by kernel_rfl) (by kernel_rfl) (by kernel_rfl) (fun g h => by cases h; exact hgz.2) (fun q hq v W W' c h hg hc => ?_) ?_
      · cases c with
        | some g => obtain ⟨_, _, i, j, u, hd, _⟩ := hc g rfl; simp at hd
        | none => exact bntC_kept h hg
      iterate 4 (refine calm_quiet (v := ?_) (by rfl) (by rfl) (fun W hW hD => ?_) ?_; rotate_left; (· (have z1 := HQ.out W hW; clear hD hW; go_simp; try with_reducible rfl)); simp only [Act.put, List.setIfInBounds_toArray, List.set_cons_zero, List.set_cons_succ, Nat.reduceAdd, Nat.zero_add])
      refine calm_quiet (v := .slice (some ⟨g, 0, none⟩) k k) (by rfl) (by rfl) (fun W hW hD => ?_) ?_
      · have hs := HSi.out W
        clear hD hW
        go_simp
      simp only [Act.put, List.setIfInBounds_toArray, List.set_cons_zero, List.set_cons_succ, Nat.reduceAdd, Nat.zero_add]
      iterate 4 (refine calm_quiet (v := ?_) (by rfl) (by rfl) (fun W hW hD => ?_) ?_; rotate_left; (· (have z1 := HQ.out W hW; clear hD hW; go_simp; try with_reducible rfl)); simp only [Act.put, List.setIfInBounds_toArray, List.set_cons_zero, List.set_cons_succ, Nat.reduceAdd, Nat.zero_add])
      refine calm_quiet (v := .slice sa (m - i1) sc) (by rfl) (by rfl) (fun W hW hD => ?_) ?_
      · have hs := HSl.out W
        skip
        skip
        clear hD hW
        go_simp
      simp only [Act.put, List.setIfInBounds_toArray, List.set_cons_zero, List.set_cons_succ, Nat.reduceAdd, Nat.zero_add]
      refine calm_makes (by rfl) (by rfl) (fun W hW hD Kc hK => ?_) (fun v67 => ?_)
      · have hW' : W1.grownBy W none := hW
        have hr := (bentR_grown HR1.out hW').2.2.1.rows noteOk
        have h1 := hr.take k k (by rw [HLl.out]; omega) (Nat.le_refl _) (by unfold maxLen; omega)
        have h2 := HSr.out _ W L hr
        refine wp_append_cutK noteOk (.tmp 61) (.tmp 66) rfl g k (.slice sa (m - i1) sc) (L.take k) (L.drop i1) rfl rfl (Nat.lt_of_lt_of_le hgz.2 hW'.size) (by rw [List.length_take, HLl.out]; omega) h1 h2 (by rw [List.length_take, List.length_drop, HLl.out]; have := HAl.out; omega) (fun v' w' h1 h2 h3 => hK _ _ ⟨⟨by rw [HDd.out]; exact h1, World.grownBy.trans hW' h2, fun b hb => (h3 b hb).2.imp (fun h => Nat.le_trans hW'.size h) (fun e => by cases e; rfl)⟩, ⟨none, h2, .inl rfl⟩, fun b hb => ⟨(h3 b hb).1, (h3 b hb).2.imp id fun e => .inr ⟨rfl, e⟩⟩⟩)
      simp only [Act.put, List.setIfInBounds_toArray, List.set_cons_zero, List.set_cons_succ, Nat.reduceAdd, Nat.zero_add]
      iterate 1 (refine calm_quiet (v := ?_) (by rfl) (by rfl) (fun W hW hD => ?_) ?_; rotate_left; (· (have z1 := HQ.out W hW; clear hD hW; go_simp; try with_reducible rfl)); simp only [Act.put, List.setIfInBounds_toArray, List.set_cons_zero, List.set_cons_succ, Nat.reduceAdd, Nat.zero_add])
      refine calm_tail (by rfl) fun W hW hF => ?_
      obtain ⟨hRd, hgn, hbl⟩ : BntC W1 g D v67 W := hF 10 (by kernel_rfl) (by kernel_rfl)
      obtain ⟨da, dc, hv, hd1, hd2⟩ := hRd.shape
      subst hv
      generalize hdn : D.length = dn at *
      have HDn := Lib.hid hdn
      clear hdn
      have hR2 := bentR_grown HR1.out hgn
      have c0 := BoxN.cell hR2.1 1 _ rfl
      have cf := BoxN.frozen hR2.1
      have hN := bentW_cut hR2 hRd (fun b hb => by have := hbl b hb; have := (BoxN.lt HR1.out.2.1); omega)
      have HF := Lib.hid hN.fin
      obtain ⟨hb1, hb2, _⟩ := hN
      have e0 := BoxN.cell hb1 0 _ rfl
      have e1 := BoxN.cell hb1 1 _ rfl
      have e2 := BoxN.cell hb1 2 _ rfl
      have e3 := BoxN.cell hb1 3 _ rfl
      have r0 := BoxN.cell hb2 0 _ rfl
      have r1 := BoxN.cell hb2 1 _ rfl
      have r2 := BoxN.cell hb2 2 _ rfl
      have r3 := BoxN.cell hb2 3 _ rfl
      have rf := BoxN.frozen hb2
      clear hb1 hb2
      clear hR2 hF hW HQ hRd hgn hbl HSi HSl HSr HDd
      go_wp2
      have hF := HF.out
      exact bodyPost_ret (v := pageV u (.slice da dn dc) s (.slice qa pn qc)) (by simp [results, Tryz.results23, go_sem, BoxN.cell hF.1 0 _ rfl, BoxN.cell hF.1 1 _ rfl, BoxN.cell hF.1 2 _ rfl, BoxN.cell hF.1 3 _ rfl]) rfl ⟨_, _, D, _, _, P, rfl, hF.2.1, hF.2.2.1, (by rw [HDn.out]; have := HDl.out; rw [HLl.out] at this; have := HLm.out; omega), (by rw [HPn.out]; omega), .inl rfl, hF.2.2.2⟩
    · have b0 := BoxN.cell HR1.out.1 0 _ rfl
      have b1 := BoxN.cell HR1.out.1 1 _ rfl
      have b2 := BoxN.cell HR1.out.1 2 _ rfl
      have b3 := BoxN.cell HR1.out.1 3 _ rfl
      have bf := BoxN.frozen HR1.out.1
      obtain ⟨x, hx⟩ : ∃ x, x = L.getD k default := ⟨_, rfl⟩
      have hget : L[k]? = some x := by rw [hx, List.getD_eq_getElem?_getD, List.getElem?_eq_getElem (by rw [HLl.out]; omega)]; rfl
      have hat := notes_el (HR1.out.2.2.1.rows noteOk) k x hget
      rw [Nat.zero_add] at hat
      obtain ⟨x0, x1, x2, x3⟩ := hat
      have xf := ownK_frozen HR1.out.2.2.1
      have hN := HR1.out.note k 1 ⟨x.unit, n, x.kind, x.text⟩ (.int .i64 n) (by rw [HLl.out]; omega) (by decide) (by rw [← hx]; rfl)
      have HF := Lib.hid hN.w.fin
      obtain ⟨hb1, hb2, _⟩ := hN
      have e0 := BoxN.cell hb1 0 _ rfl
      have e1 := BoxN.cell hb1 1 _ rfl
      have e2 := BoxN.cell hb1 2 _ rfl
      have e3 := BoxN.cell hb1 3 _ rfl
      have r0 := BoxN.cell hb2 0 _ rfl
      have r1 := BoxN.cell hb2 1 _ rfl
      have r2 := BoxN.cell hb2 2 _ rfl
      have r3 := BoxN.cell hb2 3 _ rfl
      have rf := BoxN.frozen hb2
      clear hb1 hb2
      clear hx hget
      go_wp2_with fail
      refine (HP8.out _).mono ?_
      rintro e w' ⟨rfl, rfl⟩
      go_wp2
      have hF := HF.out
      exact bodyPost_ret (v := pageV u (.slice (some ⟨g, 0, none⟩) m mc) s (.slice qa pn qc)) (by simp [results, Tryz.results23, go_sem, BoxN.cell hF.1 0 _ rfl, BoxN.cell hF.1 1 _ rfl, BoxN.cell hF.1 2 _ rfl, BoxN.cell hF.1 3 _ rfl]) rfl ⟨_, _, (L.set k ⟨x.unit, n, x.kind, x.text⟩), _, _, P, rfl, hF.2.1, hF.2.2.1, (by rw [List.length_set]; have := HLl.out; have := HLm.out; omega), (by rw [HPn.out]; omega), .inl rfl, hF.2.2.2⟩
    · have b0 := BoxN.cell HR1.out.1 0 _ rfl
      have b1 := BoxN.cell HR1.out.1 1 _ rfl
      have b2 := BoxN.cell HR1.out.1 2 _ rfl
      have b3 := BoxN.cell HR1.out.1 3 _ rfl
      have bf := BoxN.frozen HR1.out.1
      obtain ⟨x, hx⟩ : ∃ x, x = L.getD k default := ⟨_, rfl⟩
      have hget : L[k]? = some x := by rw [hx, List.getD_eq_getElem?_getD, List.getElem?_eq_getElem (by rw [HLl.out]; omega)]; rfl
      have hat := notes_el (HR1.out.2.2.1.rows noteOk) k x hget
      rw [Nat.zero_add] at hat
      obtain ⟨x0, x1, x2, x3⟩ := hat
      have xf := ownK_frozen HR1.out.2.2.1
      have hN := HR1.out.note k 3 ⟨x.unit, x.day, x.kind, text⟩ (.string (bs text)) (by rw [HLl.out]; omega) (by decide) (by rw [← hx]; rfl)
      have HF := Lib.hid hN.w.fin
      obtain ⟨hb1, hb2, _⟩ := hN
      have e0 := BoxN.cell hb1 0 _ rfl
      have e1 := BoxN.cell hb1 1 _ rfl
      have e2 := BoxN.cell hb1 2 _ rfl
      have e3 := BoxN.cell hb1 3 _ rfl
      have r0 := BoxN.cell hb2 0 _ rfl
      have r1 := BoxN.cell hb2 1 _ rfl
      have r2 := BoxN.cell hb2 2 _ rfl
      have r3 := BoxN.cell hb2 3 _ rfl
      have rf := BoxN.frozen hb2
      clear hb1 hb2
      clear hx hget
      go_wp2_with fail
      refine (HP8.out _).mono ?_
      rintro e w' ⟨rfl, rfl⟩
      go_wp2
      have hF := HF.out
      exact bodyPost_ret (v := pageV u (.slice (some ⟨g, 0, none⟩) m mc) s (.slice qa pn qc)) (by simp [results, Tryz.results23, go_sem, BoxN.cell hF.1 0 _ rfl, BoxN.cell hF.1 1 _ rfl, BoxN.cell hF.1 2 _ rfl, BoxN.cell hF.1 3 _ rfl]) rfl ⟨_, _, (L.set k ⟨x.unit, x.day, x.kind, text⟩), _, _, P, rfl, hF.2.1, hF.2.2.1, (by rw [List.length_set]; have := HLl.out; have := HLm.out; omega), (by rw [HPn.out]; omega), .inl rfl, hF.2.2.2⟩
    · have b0 := BoxN.cell HR1.out.1 0 _ rfl
      have b1 := BoxN.cell HR1.out.1 1 _ rfl
      have b2 := BoxN.cell HR1.out.1 2 _ rfl
      have b3 := BoxN.cell HR1.out.1 3 _ rfl
      have bf := BoxN.frozen HR1.out.1
      have hN := HR1.out.salt text
      have HF := Lib.hid hN.w.fin
      obtain ⟨hb1, hb2, _⟩ := hN
      have e0 := BoxN.cell hb1 0 _ rfl
      have e1 := BoxN.cell hb1 1 _ rfl
      have e2 := BoxN.cell hb1 2 _ rfl
      have e3 := BoxN.cell hb1 3 _ rfl
      have r0 := BoxN.cell hb2 0 _ rfl
      have r1 := BoxN.cell hb2 1 _ rfl
      have r2 := BoxN.cell hb2 2 _ rfl
      have r3 := BoxN.cell hb2 3 _ rfl
      have rf := BoxN.frozen hb2
      clear hb1 hb2
      go_wp2_with fail
      refine (HP8.out _).mono ?_
      rintro e w' ⟨rfl, rfl⟩
      go_wp2
      have hF := HF.out
      exact bodyPost_ret (v := pageV u (.slice (some ⟨g, 0, none⟩) m mc) text (.slice qa pn qc)) (by simp [results, Tryz.results23, go_sem, BoxN.cell hF.1 0 _ rfl, BoxN.cell hF.1 1 _ rfl, BoxN.cell hF.1 2 _ rfl, BoxN.cell hF.1 3 _ rfl]) rfl ⟨_, _, L, _, _, P, rfl, hF.2.1, hF.2.2.1, (by have := HLl.out; have := HLm.out; have := HM.out; omega), (by rw [HPn.out]; omega), .inl rfl, hF.2.2.2⟩
    · have b0 := BoxN.cell HR1.out.1 0 _ rfl
      have b1 := BoxN.cell HR1.out.1 1 _ rfl
      have b2 := BoxN.cell HR1.out.1 2 _ rfl
      have b3 := BoxN.cell HR1.out.1 3 _ rfl
      have bf := BoxN.frozen HR1.out.1
      obtain ⟨x, hx⟩ : ∃ x, x = L.getD k default := ⟨_, rfl⟩
      have hget : L[k]? = some x := by rw [hx, List.getD_eq_getElem?_getD, List.getElem?_eq_getElem (by rw [HLl.out]; omega)]; rfl
      have hat := notes_el (HR1.out.2.2.1.rows noteOk) k x hget
      rw [Nat.zero_add] at hat
      obtain ⟨x0, x1, x2, x3⟩ := hat
      have xf := ownK_frozen HR1.out.2.2.1
      have hN := HR1.out.note k 0 ⟨n, x.day, x.kind, x.text⟩ (.int .i64 n) (by rw [HLl.out]; omega) (by decide) (by rw [← hx]; rfl)
      rw [Nat.add_zero] at hN
      have HF := Lib.hid hN.w.fin
      obtain ⟨hb1, hb2, _⟩ := hN
      have e0 := BoxN.cell hb1 0 _ rfl
      have e1 := BoxN.cell hb1 1 _ rfl
      have e2 := BoxN.cell hb1 2 _ rfl
      have e3 := BoxN.cell hb1 3 _ rfl
      have r0 := BoxN.cell hb2 0 _ rfl
      have r1 := BoxN.cell hb2 1 _ rfl
      have r2 := BoxN.cell hb2 2 _ rfl
      have r3 := BoxN.cell hb2 3 _ rfl
      have rf := BoxN.frozen hb2
      clear hb1 hb2
      clear hx hget
      go_wp2_with fail
      refine (HP8.out _).mono ?_
      rintro e w' ⟨rfl, rfl⟩
      go_wp2
      have hF := HF.out
      exact bodyPost_ret (v := pageV u (.slice (some ⟨g, 0, none⟩) m mc) s (.slice qa pn qc)) (by simp [results, Tryz.results23, go_sem, BoxN.cell hF.1 0 _ rfl, BoxN.cell hF.1 1 _ rfl, BoxN.cell hF.1 2 _ rfl, BoxN.cell hF.1 3 _ rfl]) rfl ⟨_, _, (L.set k ⟨n, x.day, x.kind, x.text⟩), _, _, P, rfl, hF.2.1, hF.2.2.1, (by rw [List.length_set]; have := HLl.out; have := HLm.out; omega), (by rw [HPn.out]; omega), .inl rfl, hF.2.2.2⟩
    · have b0 := BoxN.cell HR1.out.1 0 _ rfl
      have b1 := BoxN.cell HR1.out.1 1 _ rfl
      have b2 := BoxN.cell HR1.out.1 2 _ rfl
      have b3 := BoxN.cell HR1.out.1 3 _ rfl
      have bf := BoxN.frozen HR1.out.1
      have HX := Lib.hid HR1.out
      have hXb := HR1.out.1.alloc (.cells #[.string (bs text)] 9)
      have c3 := BoxN.cell hXb 3 _ rfl
      have HL1 : Hid (RowsAt strK (W1.alloc (.cells #[.string (bs text)] 9)).heap.size (W1.alloc (.cells #[.string (bs text)] 9)) (.slice (some ⟨W1.heap.size, 0, none⟩) 1 1) [text]) := (ownK_lit strOk W1 [text] _ rfl (by simp)).rows strOk
      have HOp : Hid (OwnK strK (w.heap.size + 2) (W1.alloc (.cells #[.string (bs text)] 9)) (.slice qa pn qc) P) := HR1.out.2.2.2.1.kept (World.grownBy_alloc _ _ none) (fun g h => by cases h)
      have hz1 := BoxN.lt HR1.out.2.1
      clear hXb
      go_wp2_with fail
      refine (HP8.out _).mono ?_
      rintro e w' ⟨rfl, rfl⟩
      go_wp2_with (at_builtin; refine append_KK strOk rfl _ _ rfl (w.heap.size + 2) _ _ _ P [text] rfl rfl HOp.out HL1.out (by rw [HPn.out]; simp; have := HPl.out; omega) (by rw [World.size_alloc]; omega) W1 ((Below.refl _ _).alloc (by omega) _) ?_; intro vz w8 hO8 hg8 hb8; obtain ⟨za, zc, hvz, _, _⟩ := hO8.shape; rw [List.length_append, HPn.out, List.length_singleton] at hvz; subst hvz; have hN := bentR_app HX.out hg8 hO8; have z3 := BoxN.cell hN.1 3 _ rfl; have zf := BoxN.frozen hN.1; have hN := hN.2; have HF := Lib.hid hN.w.fin; obtain ⟨hb1, hb2, _⟩ := hN; have e0 := BoxN.cell hb1 0 _ rfl; have e1 := BoxN.cell hb1 1 _ rfl; have e2 := BoxN.cell hb1 2 _ rfl; have e3 := BoxN.cell hb1 3 _ rfl; have r0 := BoxN.cell hb2 0 _ rfl; have r1 := BoxN.cell hb2 1 _ rfl; have r2 := BoxN.cell hb2 2 _ rfl; have r3 := BoxN.cell hb2 3 _ rfl; have rf := BoxN.frozen hb2; clear hb1 hb2 hN hO8 hg8 hb8 c3)
      have hF := HF.out
      exact bodyPost_ret (v := pageV u (.slice (some ⟨g, 0, none⟩) m mc) s (.slice za (pn + 1) zc)) (by simp [results, Tryz.results23, go_sem, BoxN.cell hF.1 0 _ rfl, BoxN.cell hF.1 1 _ rfl, BoxN.cell hF.1 2 _ rfl, BoxN.cell hF.1 3 _ rfl]) rfl ⟨_, _, L, _, _, (P ++ [text]), rfl, hF.2.1, hF.2.2.1, (by have := HLl.out; have := HLm.out; have := HM.out; omega), (by rw [List.length_append, HPn.out, List.length_singleton]; omega), .inl rfl, hF.2.2.2⟩
    · by_cases hq0 : 0 < pn
      · have dq : (0 : Int) < (pn : Int) := by omega
        obtain ⟨gq, qc', hqv, hgq1, hgq2, _, _⟩ := HR1.out.2.2.2.1.some (by rw [HPn.out]; exact hq0)
        rw [HPn.out] at hqv
        obtain ⟨hqa, _, hqcc⟩ := Value.slice.inj hqv
        subst hqa
        obtain ⟨j, hj⟩ := Int.eq_ofNat_of_zero_le (HPb.out pn hq0).1
        have hjb := (HPb.out pn hq0).2
        rw [hj] at hjb
        have HPj := Lib.hid (fun W => HPk.out pn ⟨hq0, by have := HPl.out; omega⟩ W)
        rw [hj] at HPj
        have jl : (j : Int) < (pn : Int) := by omega
        have j0 : 0 ≤ (j : Int) := by omega
        have b0 := BoxN.cell HR1.out.1 0 _ rfl
        have b1 := BoxN.cell HR1.out.1 1 _ rfl
        have b2 := BoxN.cell HR1.out.1 2 _ rfl
        have b3 := BoxN.cell HR1.out.1 3 _ rfl
        have HQ : Hid (∀ W, W1.grownBy W none → BentR w u (.slice (some ⟨g, 0, none⟩) m mc) s (.slice (some ⟨gq, 0, none⟩) pn qc) L P W) := fun W hW => bentR_grown HR1.out hW
        clear hj hqv hqcc
        go_wp2_with fail
        refine (HP8.out _).mono ?_
        rintro e w' ⟨rfl, rfl⟩
        go_wp2
        refine wp_region_calm ⟨[6], fun q v _ => v = .int .i64 (j : Int), fun _ => [], 99, none, 9⟩ (by kernel_rfl) (by kernel_rfl) (by kernel_rfl) (fun g h => by cases h) (fun q hq v W W' c h hg hc => h) ?_
        iterate 6 (refine calm_quiet (v := ?_) (by rfl) (by rfl) (fun W hW hD => ?_) ?_; rotate_left; (· (have hbx := (HQ.out W hW).1; have z3 := BoxN.cell hbx 3 _ rfl; clear hD hW hbx; go_simp; try with_reducible rfl)); simp only [Act.put, List.setIfInBounds_toArray, List.set_cons_zero, List.set_cons_succ, Nat.reduceAdd, Nat.zero_add])
        refine calm_makes (by rfl) (by rfl) (fun W hW hD Kc hK => ?_) (fun v48 => ?_)
        · refine wp_of_call (f := 48) ?_ ((HPj.out W).mono ?_)
          · clear hD hW hK
            go_simp
          · rintro e w5 ⟨rfl, rfl⟩
            exact ⟨_, rfl, hK _ _ (made_plain (by exact (rfl : (Value.int .i64 (j : Int)) = .int .i64 (j : Int))) (Below.refl _ _) rfl)⟩
        simp only [Act.put, List.setIfInBounds_toArray, List.set_cons_zero, List.set_cons_succ, Nat.reduceAdd, Nat.zero_add]
        iterate 1 (refine calm_quiet (v := ?_) (by rfl) (by rfl) (fun W hW hD => ?_) ?_; rotate_left; (· (clear hD hW; go_simp; try with_reducible rfl)); simp only [Act.put, List.setIfInBounds_toArray, List.set_cons_zero, List.set_cons_succ, Nat.reduceAdd, Nat.zero_add])
        refine calm_quiet (v := .pointer (some ⟨gq, j, none⟩)) (by rfl) (by rfl) (fun W hW hD => ?_) ?_
        · obtain rfl : v48 = .int .i64 (j : Int) := hD [] 6 (by kernel_rfl) (by kernel_rfl) (by kernel_rfl)
          clear hD hW
          go_simp
        simp only [Act.put, List.setIfInBounds_toArray, List.set_cons_zero, List.set_cons_succ, Nat.reduceAdd, Nat.zero_add]
        refine calm_tail (by rfl) fun W hW hF => ?_
        have hR2 := HQ.out W hW
        have hjc : W.cell? ⟨gq, j, none⟩ = some (.string (bs (P.getD j []))) := by
          have h := (hR2.2.2.2.1.rows strOk).strsK
          obtain ⟨b, o, hbe, _, hc⟩ := h.at j (by rw [HPn.out]; omega)
          cases hbe
          rwa [Nat.zero_add] at hc
        have jf := ownK_frozen hR2.2.2.2.1
        have hN := hR2.proof j text (by rw [HPn.out]; omega)
        have HF := Lib.hid hN.w.fin
        obtain ⟨hb1, hb2, _⟩ := hN
        have e0 := BoxN.cell hb1 0 _ rfl
        have e1 := BoxN.cell hb1 1 _ rfl
        have e2 := BoxN.cell hb1 2 _ rfl
        have e3 := BoxN.cell hb1 3 _ rfl
        have r0 := BoxN.cell hb2 0 _ rfl
        have r1 := BoxN.cell hb2 1 _ rfl
        have r2 := BoxN.cell hb2 2 _ rfl
        have r3 := BoxN.cell hb2 3 _ rfl
        have rf := BoxN.frozen hb2
        clear hb1 hb2
        clear hR2 hF hW HQ
        go_wp2
        have hF := HF.out
        exact bodyPost_ret (v := pageV u (.slice (some ⟨g, 0, none⟩) m mc) s (.slice (some ⟨gq, 0, none⟩) pn qc)) (by simp [results, Tryz.results23, go_sem, BoxN.cell hF.1 0 _ rfl, BoxN.cell hF.1 1 _ rfl, BoxN.cell hF.1 2 _ rfl, BoxN.cell hF.1 3 _ rfl]) rfl ⟨_, _, L, _, _, (P.set j text), rfl, hF.2.1, hF.2.2.1, (by have := HLl.out; have := HLm.out; have := HM.out; omega), (by rw [List.length_set, HPn.out]; omega), .inl rfl, hF.2.2.2⟩
      · have dq : ¬ ((0 : Int) < (pn : Int)) := by omega
        have b0 := BoxN.cell HR1.out.1 0 _ rfl
        have b1 := BoxN.cell HR1.out.1 1 _ rfl
        have b2 := BoxN.cell HR1.out.1 2 _ rfl
        have b3 := BoxN.cell HR1.out.1 3 _ rfl
        have HF := Lib.hid HR1.out.w.fin
        obtain ⟨_, hb2, _⟩ := HR1.out
        have r0 := BoxN.cell hb2 0 _ rfl
        have r1 := BoxN.cell hb2 1 _ rfl
        have r2 := BoxN.cell hb2 2 _ rfl
        have r3 := BoxN.cell hb2 3 _ rfl
        have rf := BoxN.frozen hb2
        clear hb2 hq0
        go_wp2_with fail
        refine (HP8.out _).mono ?_
        rintro e w' ⟨rfl, rfl⟩
        go_wp2
        have hF := HF.out
        exact bodyPost_ret (v := pageV u (.slice (some ⟨g, 0, none⟩) m mc) s (.slice qa pn qc)) (by simp [results, Tryz.results23, go_sem, BoxN.cell hF.1 0 _ rfl, BoxN.cell hF.1 1 _ rfl, BoxN.cell hF.1 2 _ rfl, BoxN.cell hF.1 3 _ rfl]) rfl ⟨_, _, L, _, _, P, rfl, hF.2.1, hF.2.2.1, (by have := HLl.out; have := HLm.out; have := HM.out; omega), (by rw [HPn.out]; omega), .inl rfl, hF.2.2.2⟩
end Go.Proofs.YteicimmdcdjagaaGreatDoor
end

section
/- Plain facts for ViewComplete; what it carries along. -/
set_option linter.unusedVariables false
set_option linter.unusedSimpArgs false
namespace Go.Proofs.YteicimmdcdjagaaGreatDoor
open Go.RowKit Go.Shelf

/-- What a page has that is accepted. -/
theorem check_true {R : Bytes} {u : Int} {A : List VNote} {s : Bytes} {P : List Bytes} (h : checkB R ⟨u, A, s, P⟩ = true) : ∃ n : Nat, u = (n : Int) ∧ n < 100 ∧ notesB A = true ∧ s.length = 32 ∧ (∀ x ∈ P, x.length = 32) ∧ (∀ a ∈ A, a.unit = (n : Int)) ∧ verB R 100 (n : Int) (sealB s A) P = true := by
  unfold checkB at h
  simp only [Bool.and_eq_true, Bool.not_eq_true', decide_eq_true_eq, List.any_eq_false] at h
  obtain ⟨h1, h2, h3, h4, h5⟩ := h
  have hu : 0 ≤ u ∧ u ≤ 99 := by
    have := h1
    rw [inZ_iff] at this
    exact this
  obtain ⟨n, rfl⟩ := Int.eq_ofNat_of_zero_le hu.1
  refine ⟨n, rfl, by omega, h2, h4, ?_, fun a ha => by simpa using h3 a ha, h5⟩
  unfold verB at h5
  simp only [Bool.and_eq_true] at h5
  intro x hx
  have := List.all_eq_true.1 h5.1.2 x hx
  simpa using this
/-- Whatever page is accepted is the page of the dossier, or there is a collision. -/
theorem comp_all {K : List UInt8} {l : List VNote} {R : Bytes} {n : Nat} {A : List VNote} {s : Bytes} {P : List Bytes} (hd : dosB ⟨K, l⟩ = true) (hR : rootL (sealsL ⟨K, l⟩) = R) (hn : n < 100) (h : checkB R ⟨(n : Int), A, s, P⟩ = true) (hne : ¬ (ofN l n = A ∧ saltB K n = s)) :
    meetB (pageHF n (ofN l n) (saltB K n) (proofL (sealsL ⟨K, l⟩) n)) (pageHF n A s P) = true := by
  obtain ⟨m, hm, hm1, h2, h4, h5, h6, h7⟩ := check_true h
  have hmn : m = n := by omega
  subst hmn
  have hl := (notesB_ok h2).2.2
  rcases complete_plain (lt := fun a b => ltN a b = true) (d := ⟨K, l⟩) (z := ⟨(m : Int), A, s, P⟩) (u := m) (dosB_dos hd) hn rfl h4 (fun a ha => ⟨(noteB_z ((notesB_ok h2).1 a ha)).1, h6 a ha⟩) (by show A.length ≤ 1000000; omega) (by rw [hR]; exact h7) with h | h
  · exact absurd ⟨h.1.symm, h.2.symm⟩ hne
  · rw [pageHF_meet]
    exact h
/-- The page of a unit is accepted; its proof is short. -/
theorem comp_own {K : List UInt8} {l : List VNote} {R : Bytes} {n : Nat} (hd : dosB ⟨K, l⟩ = true) (hR : rootL (sealsL ⟨K, l⟩) = R) (hn : n < 100) :
    checkB R ⟨(n : Int), ofN l n, saltB K n, proofL (sealsL ⟨K, l⟩) n⟩ = true ∧ (proofL (sealsL ⟨K, l⟩) n).length ≤ 900 ∧ (∀ x ∈ proofL (sealsL ⟨K, l⟩) n, x.length = 32) ∧ notesB (ofN l n) = true ∧ (saltB K n).length = 32 := by
  refine ⟨?_, ?_, proofL_dig _ _ _ (Nat.le_refl _), notesB_of_dos hd n, saltB_length _ _⟩
  · rw [check_page hd hn (saltB_length _ _), ← hR]
    exact page_ok ⟨K, l⟩ hn
  · exact Nat.le_trans (proofL_short (sealsL ⟨K, l⟩).length (sealsL ⟨K, l⟩) n 10 (Nat.le_refl _) (by rw [sealsL_length]; decide)) (by omega)
/-- A page's rows lie in the world. -/
def PgOk (W : World) (r : PageR) : Prop := ∃ (A : List VNote) (P : List Bytes), RowsAt noteK W.heap.size W (.slice r.na r.nn r.nc) A ∧ A.length ≤ 1000 ∧ StrsAt W.heap.size W (.slice r.pa r.pn r.pc) P ∧ P.length ≤ 1000
theorem PgOk.later {W W' : World} {r : PageR} (h : PgOk W r) (hb : Below W.heap.size W W') : PgOk W' r := by
  obtain ⟨A, P, h1, h2, h3, h4⟩ := h
  exact ⟨A, P, h1.later hb (Nat.le_refl _), h2, h3.later hb (Nat.le_refl _), h4⟩
def PgN (r : PageR) (W : World) : Prop := PgOk W r
theorem keep_pg {W : World} {r : PageR} (h : PgOk W r) : ∀ W', Below W.heap.size W W' → PgN r W' := fun _ hb => h.later hb
abbrev pgV (r : PageR) : Value := .agg #[.int .i64 r.unit, .slice r.na r.nn r.nc, .string (bs r.salt), .slice r.pa r.pn r.pc]
abbrev pgC (r : PageR) : Array Value := #[.int .i64 r.unit, .slice r.na r.nn r.nc, .string (bs r.salt), .slice r.pa r.pn r.pc]
theorem ownS_K {base : Nat} {w : World} {v : Value} {l : List Bytes} (h : OwnS base w v l) : OwnK strK base w v l := by
  have e : ∀ l : List Bytes, cellsK strK l = l.map (fun b => Value.string (bs b)) := fun l => by
    induction l with
    | nil => rfl
    | cons x t ih =>
      show Value.string (bs x) :: cellsK strK t = _
      rw [ih]
      rfl
  unfold OwnK
  rw [e]
  exact h
/-- What lies there while the page that came in is cut. -/
def RestC (H D Q : Nat) (K : List UInt8) (ra : Option Addr) (rn rc : Nat) (l : List VNote) (u : Int) (xa : Option Addr) (xn xc : Nat) (A : List VNote) (S : List UInt8) (pa : Option Addr) (pn pc : Nat) (PL : List Bytes) (ya : Option Addr) (yn yc : Nat) (A1 : List VNote) (W : World) : Prop :=
  BoxN D 26 #[.string (bs K), .slice ra rn rc] W ∧ BoxN Q 39 #[.int .i64 u, .slice xa xn xc, .string (bs S), .slice pa pn pc] W ∧ OwnK noteK (H + 1) W (.slice ra rn rc) l ∧ OwnK noteK (H + 1) W (.slice xa xn xc) A ∧ OwnK strK (H + 1) W (.slice pa pn pc) PL ∧ OwnK noteK (H + 1) W (.slice ya yn yc) A1 ∧ D ≠ H ∧ Q ≠ H
theorem RestC.later {H D Q : Nat} {K : List UInt8} {ra : Option Addr} {rn rc : Nat} {l : List VNote} {u : Int} {xa : Option Addr} {xn xc : Nat} {A : List VNote} {S : List UInt8} {pa : Option Addr} {pn pc : Nat} {PL : List Bytes} {ya : Option Addr} {yn yc : Nat} {A1 : List VNote} {W W' : World}
    (h : RestC H D Q K ra rn rc l u xa xn xc A S pa pn pc PL ya yn yc A1 W) (hb : Below W.heap.size W W') : RestC H D Q K ra rn rc l u xa xn xc A S pa pn pc PL ya yn yc A1 W' := by
  obtain ⟨h1, h2, h3, h4, h5, h6, h7, h8⟩ := h
  exact ⟨BoxN.below h1 hb h1.lt, BoxN.below h2 hb h2.lt, h3.below hb (Nat.le_refl _), h4.below hb (Nat.le_refl _), h5.below hb (Nat.le_refl _), h6.below hb (Nat.le_refl _), h7, h8⟩
theorem RestC.set {H D Q : Nat} {K : List UInt8} {ra : Option Addr} {rn rc : Nat} {l : List VNote} {u : Int} {xa : Option Addr} {xn xc : Nat} {A : List VNote} {S : List UInt8} {pa : Option Addr} {pn pc : Nat} {PL : List Bytes} {ya : Option Addr} {yn yc : Nat} {A1 : List VNote} {W : World}
    (h : RestC H D Q K ra rn rc l u xa xn xc A S pa pn pc PL ya yn yc A1 W) (j : Nat) (v : Value) : RestC H D Q K ra rn rc l u xa xn xc A S pa pn pc PL ya yn yc A1 (W.setCell ⟨H, j, none⟩ v) := by
  obtain ⟨h1, h2, h3, h4, h5, h6, h7, h8⟩ := h
  exact ⟨BoxN.other h1 h7, BoxN.other h2 h8, h3.setOther (by omega) j v, h4.setOther (by omega) j v, h5.setOther (by omega) j v, h6.setOther (by omega) j v, h7, h8⟩
/-- What the steps of the cutting region leave. -/
def ProofF (B : Nat) (rv : Value) (T : List Bytes) (y : Bytes) : Nat → Value → World → Prop := fun k v W =>
  if k = 0 then v = rv ∧ OwnK strK B W rv T else if k = 14 then ∃ g, v = .slice (some ⟨g, 0, none⟩) 1 1 ∧ RowsAt strK W.heap.size W v [y] ∧ B ≤ g else OwnK strK B W v (T ++ [y])
theorem proofF_kept {B : Nat} {rv : Value} {T : List Bytes} {y : Bytes} {k : Nat} {v : Value} {W W' : World} {c : Option Nat} (h : ProofF B rv T y k v W) (hg : W.grownBy W' c) (hc : ∀ g, c = some g → v.ownBlock ≠ some g) : ProofF B rv T y k v W' := by
  unfold ProofF at h ⊢
  split at h
  · rename_i hk; rw [if_pos hk]
    obtain ⟨rfl, h⟩ := h
    exact ⟨rfl, h.kept hg hc⟩
  · rename_i hk; rw [if_neg hk]; split at h
    · rename_i hk; rw [if_pos hk]
      obtain ⟨g, rfl, hr, hB⟩ := h
      refine ⟨g, rfl, ?_, hB⟩
      obtain ⟨a, c', e, h1, h2, h3⟩ := hr
      refine ⟨a, c', e, h1, h2, fun hp => ?_⟩
      obtain ⟨b, off, ha, hb, hcc⟩ := h3 hp
      refine ⟨b, off, ha, Nat.lt_of_lt_of_le hb hg.size, fun i x hi q u hu => ?_⟩
      have hgb : g = b := by
        have e1 := (Value.slice.inj e).1
        rw [ha] at e1
        cases e1
        rfl
      subst hgb
      exact hg.cell (hcc i x hi q u hu) (fun e2 => hc g e2.symm rfl)
    · rename_i hk; rw [if_neg hk]; exact h.kept hg hc
/-- What the steps of the region with the three pages leave. -/
def PagesF (B : Nat) (r1 r2 : PageR) : Nat → Value → World → Prop := fun k v W =>
  if k = 8 then ∃ r, v = pgV r ∧ PgOk W r else ∃ (g : Nat) (r0 : PageR), v = .slice (some ⟨g, 0, none⟩) 3 3 ∧ OwnK pageK B W v [r0, r1, r2] ∧ PgOk W r0
theorem pagesF_kept {B : Nat} {r1 r2 : PageR} {k : Nat} {v : Value} {W W' : World} (h : PagesF B r1 r2 k v W) (hg : W.grownBy W' none) : PagesF B r1 r2 k v W' := by
  unfold PagesF at h ⊢
  split at h
  · rename_i hk; rw [if_pos hk]
    obtain ⟨r, rfl, h⟩ := h
    exact ⟨r, rfl, h.later (grown_below hg)⟩
  · rename_i hk; rw [if_neg hk]
    obtain ⟨g, r, rfl, h1, h2⟩ := h
    exact ⟨g, r, rfl, h1.kept hg (fun g h => by cases h), h2.later (grown_below hg)⟩
/-- What the steps of the first test leave. -/
def ComF (B : Nat) (A : List VNote) : Nat → Value → World → Prop := fun k v W => if k = 18 then OwnK noteK B W v A else v = .bool true
theorem comF_kept {B : Nat} {A : List VNote} {k : Nat} {v : Value} {W W' : World} (h : ComF B A k v W) (hg : W.grownBy W' none) : ComF B A k v W' := by
  unfold ComF at h ⊢
  split at h
  · rename_i hk; rw [if_pos hk]; exact h.kept hg (fun g h => by cases h)
  · rename_i hk; rw [if_neg hk]; exact h
/-- A page's own cells, in a block. -/
theorem pageR_of {u : Int} {na : Option Addr} {nn nc : Nat} {s : List UInt8} {pa : Option Addr} {pn pc : Nat} : pgV ⟨u, na, nn, nc, s, pa, pn, pc⟩ = pageV u (.slice na nn nc) s (.slice pa pn pc) := rfl
end Go.Proofs.YteicimmdcdjagaaGreatDoor
end

section
/- How a page among the arguments is opened. -/
set_option linter.unusedVariables false
set_option linter.unusedSimpArgs false
namespace Go.Proofs.YteicimmdcdjagaaGreatDoor
open Go.ChangeShapes Go.WideShapes Go.ChangeAt Go.RowKit Go.Shelf

theorem list4 {α : Type} : ∀ {l : List α}, l.length = 4 → ∃ a b c d, l = [a, b, c, d]
  | [a, b, c, d], _ => ⟨a, b, c, d, rfl⟩
section
variable {H : Type} {enc : TypeId × Value → H} {w : World}
set_option maxRecDepth 1000000 in
theorem rowsK_trod {α : Type} [Inhabited α] {K : SK α} (ok : K.Ok) (hc : Tryz.prog.cellsOf K.ty = K.size) (el : ∀ (cs : List Value) (x : DataW H × List MemPlace) (n : Nat), DataW.trod enc Tryz.prog w 0 (fun _ => true) true n K.ty cs = some x → ∃ r : α, cs = K.enc r)
    {cs : List Value} {x : DataW H × List MemPlace} {n : Nat} (h : DataW.trod enc Tryz.prog w 0 (fun _ => true) true n K.st cs = some x) : ∃ v l, cs = [v] ∧ RowsAt K w.heap.size w v l := by
  rcases DataW.trod_slice ok.und h with ⟨hcs, _⟩ | ⟨a', len', cap', elems, rest, m, _, hcs, _, _, hl, hm, hlen, hel, _, _⟩
  · exact ⟨_, [], hcs, RowsAt.nil _ _⟩
  · refine ⟨.slice (some a') len' cap', ?_⟩
    rw [hc] at hel
    have each : ∀ j : Nat, ∃ r : α, j < len' → ∀ (k : Nat) (u : Value), (K.enc r)[k]? = some u → w.cell? ((a'.add (j * K.size)).add k) = some u := fun j => by
      by_cases hj : j < len'
      · have h1 := hel j hj
        rw [List.getElem?_eq_getElem (by omega), Option.bind_eq_some_iff] at h1
        obtain ⟨cs', h2, h3⟩ := h1
        obtain ⟨r, e⟩ := el _ _ _ h3
        have hcells := World.cells?_some h2
        subst e
        refine ⟨r, fun _ k u hu => ?_⟩
        have hk : k < K.size := by have := (List.getElem?_eq_some_iff.1 hu).1; rwa [ok.len] at this
        have := hcells.2.2 k hk
        rw [this]
        first | exact hu | (rw [← hu]; simp [List.getElem?_eq_getElem, List.getD_eq_getElem?_getD]) | simpa using hu
      · exact ⟨default, fun h => absurd h hj⟩
    obtain ⟨f, hf⟩ := Classical.axiomOfChoice each
    have hl' : ((List.range len').map f).length = len' := by simp
    refine ⟨(List.range len').map f, hcs, some a', cap', by rw [hl'], by omega, hm, fun hp => ?_⟩
    rw [hl'] at hp
    obtain ⟨b, off, spot⟩ := a'
    obtain ⟨u0, hu0⟩ : ∃ u0, (K.enc (f 0))[0]? = some u0 := ⟨_, List.getElem?_eq_getElem (by rw [ok.len]; exact ok.pos)⟩
    have h0 := hf 0 hp 0 u0 hu0
    obtain rfl : spot = none := by simpa [Addr.add] using World.cell?_spot h0
    have e : ∀ x y, ((⟨b, off, none⟩ : Addr).add x).add y = ⟨b, off + x + y, none⟩ := fun x y => by rw [Addr.add_lit, Addr.add_lit]
    rw [e] at h0
    refine ⟨b, off, rfl, cell_lt h0, fun i x hi k u hu => ?_⟩
    have hil : i < len' := by have := (List.getElem?_eq_some_iff.1 hi).1; rwa [hl'] at this
    have hx : f i = x := by simpa [hil] using hi
    have g := hf i hil k u (by rw [hx]; exact hu)
    rwa [e] at g
set_option maxRecDepth 1000000 in
theorem note_trod {cs : List Value} {x : DataW H × List MemPlace} {n : Nat} (h : DataW.trod enc Tryz.prog w 0 (fun _ => true) true n 48 cs = some x) : ∃ r : VNote, cs = noteK.enc r := by
  obtain ⟨xs, m, _, _, hl, hlen, hf⟩ := DataW.trod_struct Tryz.underlying48 h
  obtain ⟨y0, y1, y2, y3, rfl⟩ := list4 (hlen.trans rfl)
  have h0 := hf 0 _ rfl
  have h1 := hf 1 _ rfl
  have h2 := hf 2 _ rfl
  have h3 := hf 3 _ rfl
  obtain ⟨a, b, c, d, rfl⟩ := list4 (hl.trans (by kernel_rfl))
  have h0' : DataW.trod enc Tryz.prog w 0 (fun _ => true) true m 3 [a] = some y0 := h0
  have h1' : DataW.trod enc Tryz.prog w 0 (fun _ => true) true m 3 [b] = some y1 := h1
  have h2' : DataW.trod enc Tryz.prog w 0 (fun _ => true) true m 3 [c] = some y2 := h2
  have h3' : DataW.trod enc Tryz.prog w 0 (fun _ => true) true m 9 [d] = some y3 := h3
  clear h0 h1 h2 h3 hf
  obtain ⟨z0, e0, _⟩ := DataW.trod_int Tryz.underlying3 h0'
  obtain ⟨z1, e1, _⟩ := DataW.trod_int Tryz.underlying3 h1'
  obtain ⟨z2, e2, _⟩ := DataW.trod_int Tryz.underlying3 h2'
  obtain ⟨s, e3, _⟩ := DataW.trod_string Tryz.underlying9 h3'
  cases e0; cases e1; cases e2; cases e3
  exact ⟨⟨z0, z1, z2, s.data.toList⟩, rfl⟩
set_option maxRecDepth 1000000 in
theorem str_trod {cs : List Value} {x : DataW H × List MemPlace} {n : Nat} (h : DataW.trod enc Tryz.prog w 0 (fun _ => true) true n 9 cs = some x) : ∃ r : Bytes, cs = strK.enc r := by
  obtain ⟨s, e, _⟩ := DataW.trod_string Tryz.underlying9 h
  subst e
  exact ⟨s.data.toList, rfl⟩
set_option maxRecDepth 1000000 in
theorem open_page {r : Reach} {b0 : Nat} {v : Value} {d : DataW H} {p : List MemPlace} (hv : Value.okWide Tryz.prog w r b0 39 v) (hd : DataW.Trod enc Tryz.prog w 0 (fun _ => true) true 39 v d p) :
    ∃ (u : Int) (nv : Value) (l : List VNote) (s : List UInt8) (pv : Value) (ps : List Bytes), v = pageV u nv s pv ∧ RowsAt noteK w.heap.size w nv l ∧ StrsAt w.heap.size w pv ps := by
  simp only [Value.okWide, Tryz.underlying39] at hv
  obtain ⟨cs, rfl, hsz, _⟩ := hv
  have hC : Tryz.prog.cellsOf 39 = 4 := by kernel_rfl
  obtain ⟨c0, c1, c2, c3, rfl⟩ : ∃ c0 c1 c2 c3, cs = #[c0, c1, c2, c3] := by
    rw [hC] at hsz
    match cs, hsz with
    | ⟨[c0, c1, c2, c3]⟩, _ => exact ⟨c0, c1, c2, c3, rfl⟩
  obtain ⟨fuel, hf⟩ := hd
  obtain ⟨xs, m, _, _, hl, hlen, hf⟩ := DataW.trod_struct Tryz.underlying39 hf
  obtain ⟨y0, y1, y2, y3, rfl⟩ := list4 (hlen.trans rfl)
  have h0 : DataW.trod enc Tryz.prog w 0 (fun _ => true) true m 3 [c0] = some y0 := hf 0 _ rfl
  have h1 : DataW.trod enc Tryz.prog w 0 (fun _ => true) true m 24 [c1] = some y1 := hf 1 _ rfl
  have h2 : DataW.trod enc Tryz.prog w 0 (fun _ => true) true m 9 [c2] = some y2 := hf 2 _ rfl
  have h3 : DataW.trod enc Tryz.prog w 0 (fun _ => true) true m 34 [c3] = some y3 := hf 3 _ rfl
  obtain ⟨z0, e0, _⟩ := DataW.trod_int Tryz.underlying3 h0
  obtain ⟨v1, l1, e1, hr1⟩ := rowsK_trod noteOk (by kernel_rfl) (fun _ _ _ h => note_trod h) h1
  obtain ⟨s, e2, _⟩ := DataW.trod_string Tryz.underlying9 h2
  obtain ⟨v3, l3, e3, hr3⟩ := rowsK_trod strOk (by kernel_rfl) (fun _ _ _ h => str_trod h) h3
  cases e0; cases e1; cases e2; cases e3
  exact ⟨z0, c1, l1, s.data.toList, c3, l3, rfl, hr1, hr3.strsK⟩
end
end Go.Proofs.YteicimmdcdjagaaGreatDoor
end
