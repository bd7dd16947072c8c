/- justify.least: the least sets with a property. -/
import Derived.Test.YtmihkbiihfhpoaaDoorJParts
namespace Go.Proofs.YtmihkbiihfhpoaaDoor
open Go.RowKit Go.Shelf
attribute [local go_sem] Oper.semAt_some

/-- The mark that a range over a function leaves. -/
abbrev markAt (D : Nat) : Deferred := { target := .collected D, args := #[] }
def Marks (Ds : List Nat) (B : Nat) (W : World) : Prop := Ds.Nodup ∧ ∀ D ∈ Ds, B ≤ D ∧ W.heap[D]? = some (.deferred (some []))
theorem Marks.lt {Ds : List Nat} {B : Nat} {W : World} (h : Marks Ds B W) {D : Nat} (hD : D ∈ Ds) : D < W.heap.size := (Array.getElem?_eq_some_iff.1 (h.2 D hD).2).1
theorem Marks.below {Ds : List Nat} {B C : Nat} {W W' : World} (h : Marks Ds B W) (hb : Below C W W') (hC : W.heap.size ≤ C) : Marks Ds B W' :=
  ⟨h.1, fun D hD => ⟨(h.2 D hD).1, (hb.block D (Nat.lt_of_lt_of_le (h.lt hD) hC)).trans (h.2 D hD).2⟩⟩
theorem Marks.grown {Ds : List Nat} {B : Nat} {W W' : World} {row : Option Nat} (h : Marks Ds B W) (hg : W.grownBy W' row) (hr : ∀ r, row = some r → ∃ o : Obj, W.heap[r]? = some o ∧ o.isCells = true) : Marks Ds B W' :=
  ⟨h.1, fun D hD => ⟨(h.2 D hD).1, (hg.block D (h.lt hD) fun e => by
    obtain ⟨o, h1, h2⟩ := hr D e.symm
    rw [(h.2 D hD).2] at h1
    cases h1
    cases h2).trans (h.2 D hD).2⟩⟩
theorem Marks.cons {Ds : List Nat} {B D : Nat} {W : World} (h : Marks Ds B W) (hD : W.heap[D]? = some (.deferred (some []))) (hB : B ≤ D) (hn : D ∉ Ds) : Marks (D :: Ds) B W :=
  ⟨List.nodup_cons.2 ⟨hn, h.1⟩, fun D' h' => by
    rcases List.mem_cons.1 h' with rfl | h'
    · exact ⟨hB, hD⟩
    · exact h.2 D' h'⟩
/-- The marks are taken off at the return: nothing but their own blocks turns. -/
theorem leaves_marks {F : Fence} {n : Nat} {P : Program} {fn : Func} {tmps : Array Value} {R : Ending → World → Prop} {B : Nat} : ∀ (Ds : List Nat) (W : World), Marks Ds B W →
    (∀ W', Below B W W' → (∀ (k : Nat) (o : Obj), W.heap[k]? = some o → o.isCells = true → W'.heap[k]? = some o) → LeavesInM F n P fn tmps R [] .returning W') → LeavesInM F n P fn tmps R (Ds.map markAt) .returning W
  | [], W, _, h => h W (Below.refl _ _) fun _ _ h _ => h
  | D :: Ds, W, hm, h => by
    have hD := hm.2 D (by simp)
    have hlt := hm.lt (D := D) (by simp)
    refine ⟨by simp, .inl ⟨D, _, rfl, run_takeDeferred hD.2, ?_⟩⟩
    have hnd := List.nodup_cons.1 hm.1
    have hb : Below B W (W.putObj D (.deferred none)) := (Below.refl B W).grown (grownBy_putObj' W D _) (by omega) (fun k e => by cases e; exact hD.1)
    refine leaves_marks Ds _ ⟨hnd.2, fun D' h' => ⟨(hm.2 D' (by simp [h'])).1, ?_⟩⟩ fun W' hb' hk' => h W' (hb.trans hb') fun k o hk ho => hk' k o ?_ ho
    · rw [World.putObj_heap_other (show D' ≠ D from fun e => hnd.1 (by rw [← e]; exact h'))]
      exact (hm.2 D' (by simp [h'])).2
    · rw [World.putObj_heap_other (fun e => by subst e; rw [hD.2] at hk; cases hk; cases ho)]
      exact hk
def leastI (n : Nat) (p : Nat → Bool) : List Int := (leastN n p).map fun (i : Nat) => (i : Int)
def leastTo (p : Nat → Bool) (j : Nat) : List Int := ((List.range j).filter (minB p)).map fun (i : Nat) => (i : Int)
theorem leastTo_succ (p : Nat → Bool) (j : Nat) : leastTo p (j + 1) = if minB p j then leastTo p j ++ [(j : Int)] else leastTo p j := by
  unfold leastTo
  rw [List.range_succ, List.filter_append, List.map_append]
  cases h : minB p j <;> simp [h]
theorem leastTo_length (p : Nat → Bool) (j : Nat) : (leastTo p j).length ≤ j := by
  unfold leastTo
  rw [List.length_map]
  have := List.length_filter_le (minB p) (List.range j)
  rwa [List.length_range] at this
theorem OwnI.cells_block {base : Nat} {w : World} {v : Value} {l : List Int} (h : OwnI base w v l) : ∀ r, v.ownBlock = some r → ∃ o : Obj, w.heap[r]? = some o ∧ o.isCells = true := by
  intro r hr
  rcases h.2 with ⟨rfl, _⟩ | ⟨g, cap, cur, rfl, _, hgg, _⟩
  · cases hr
  · cases hr
    exact ⟨_, hgg, rfl⟩
theorem OwnI.keeps {base : Nat} {w w' : World} {v : Value} {l : List Int} (h : OwnI base w v l) (hk : ∀ (k : Nat) (o : Obj), w.heap[k]? = some o → o.isCells = true → w'.heap[k]? = some o) : OwnI base w' v l := by
  refine ⟨h.1, ?_⟩
  rcases h.2 with hn | ⟨g, cap, cur, rfl, hg, hgg, rest⟩
  · exact .inl hn
  · exact .inr ⟨g, cap, cur, rfl, hg, hk g _ hgg rfl, rest⟩
theorem keepsFrom_below {B : Nat} {W W' : World} (h : Below W.heap.size W W') : KeepsFrom B W W' := ⟨h.size, fun k _ _ hk _ => (h.block k (Array.getElem?_eq_some_iff.1 hk).1).trans hk⟩
theorem min_of_parts {p : Nat → Bool} {s : N32} (h : p s.1 = true) (hp : ∀ x ∈ partsL s, p x.1 = false) : minB p s.1 = true := by
  unfold minB
  rw [h, Bool.true_and, List.all_eq_true]
  intro i hi
  have := hp (partOf s i) (List.mem_map.2 ⟨i, hi, rfl⟩)
  rw [show (partOf s i).1 = sdiff s.1 (2 ^ i) from rfl] at this
  simp [this]
theorem min_of_part {p : Nat → Bool} {s : N32} {pre : List N32} {x : N32} (hpre : pre <+: partsL s) (hx : x ∈ pre) (hp : p x.1 = true) : minB p s.1 = false := by
  obtain ⟨i, hi, rfl⟩ := List.mem_map.1 (hpre.subset hx)
  unfold minB
  rw [Bool.and_eq_false_iff]
  right
  rw [List.all_eq_false]
  exact ⟨i, hi, by rw [show (partOf s i).1 = sdiff s.1 (2 ^ i) from rfl] at hp; simp [hp]⟩
/-- A property that a closure tells. -/
def Tells (g : Nat) (lb : Array Value) (k : Int) (p : Nat → Bool) (w : World) : Prop :=
  ∀ (x : Nat) (W : World), x < 4294967296 → Below w.heap.size w W → Calls Tryd.prog g (#[.int .i64 k, .int .i64 x] ++ lb) W fun e W' => e = .returned (.bool (p x)) ∧ Below W.heap.size W W'

set_option maxRecDepth 100000 in
set_option maxHeartbeats 2000000 in
theorem least_any (s d k : Int) (rv : Value) (g : Nat) (lb : Array Value) (eg : ∀ args w, (callFunc g args).run Tryd.prog w = .ok (.enter g args) w) (p : Nat → Bool) (n : Nat) (hs : s = n) (hn : n ≤ 12) (hrv : ∃ a l c, rv = .slice a l c) (w : World) (hp : Tells g lb k p w) :
    Calls Tryd.prog 61 #[thV s d rv, .int .i64 k, .func (.func g) #[] lb] w fun e w' => ∃ v, e = .returned v ∧ OwnI w.heap.size w' v (leastI n p) ∧ Below w.heap.size w w' := by
  obtain ⟨i0, hi, hz0, hz1, hz2⟩ := info_parts info_int
  obtain ⟨ra, rl, rc, rfl⟩ := hrv
  subst hs
  have hsh := shl_one n (by omega)
  have h4096 : 2 ^ n ≤ 2 ^ 12 := Nat.pow_le_pow_right (by omega) hn
  have HP := Lib.hid hp
  clear hp
  have HN : Hid (leastI n p = leastTo p (2 ^ n)) := rfl
  generalize 2 ^ n = N at *
  refine (callsIn_wide (n := 4)).1 ?_
  refine callsIn_of_wp_marks Tryd.func61 rfl trivial ?_
  simp only [Tryd.ntmps61, List.size_toArray, List.length_cons, List.length_nil, Nat.reduceAdd, Nat.reduceSub, Array.replicate_succ, Array.replicate_zero, List.push_toArray, List.append_toArray, List.nil_append, List.cons_append]
  gi_wp2
  refine wpIn_wide.2 (wp_scope_straight ((wpIn_wide (n := 4)).1 ?_))
  gi_wp2
  refine wpIn_label ?_
  gi_wp2
  obtain ⟨W, hW⟩ : ∃ W, W = ((w.alloc (.cells #[.int .i64 n, .int .i64 d, .slice ra rl rc] 25)).alloc (.cells #[.int .i64 k] 3)).alloc (.cells #[.func (.func g) #[] lb] 50) := ⟨_, rfl⟩
  have hbW : Below w.heap.size w W := by rw [hW]; exact (((Below.refl _ _).alloc (Nat.le_refl _) _).alloc (by simp) _).alloc (by simp; omega) _
  have hsz : W.heap.size = w.heap.size + 3 := by rw [hW]; simp
  have hcK : W.cell? ⟨w.heap.size + 1, 0, none⟩ = some (.int .i64 k) := by
    rw [hW, Below.cell ((Below.refl (w.heap.size + 2) _).alloc (by simp) _) (p := ⟨w.heap.size + 1, 0, none⟩) (Nat.lt_succ_self _)]
    simp
  have hcF : W.cell? ⟨w.heap.size + 2, 0, none⟩ = some (.func (.func g) #[] lb) := by
    rw [hW]
    have := (Boxed.new ((w.alloc (.cells #[.int .i64 n, .int .i64 d, .slice ra rl rc] 25)).alloc (.cells #[.int .i64 k] 3)) 50 (.func (.func g) #[] lb)).cell
    simpa using this
  rw [← hW, hsh]
  have HB := Lib.hid hbW
  have HcK := Lib.hid hcK
  have HcF := Lib.hid hcF
  clear hW hbW hcK hcF hsh
  have HFin : Hid (∀ wr v, OwnI W.heap.size wr v (leastTo p N) → Below W.heap.size W wr → OwnI w.heap.size wr v (leastI n p) ∧ Below w.heap.size w wr) := fun wr v h1 h2 => ⟨by rw [HN.out]; exact h1.mono (by omega), HB.out.trans (h2.mono (by omega))⟩
  have h1W : w.heap.size + 1 < W.heap.size := by omega
  have h2W : w.heap.size + 2 < W.heap.size := by omega
  refine wpIn_loop (fun a' wr => ∃ (j : Nat) (Ds : List Nat) (u7 u8 u14 u15 u16 u17 u18 u19 u20 u21 u22 u28 u29 u30 u31 u32 : Value), j ≤ N ∧ OwnI W.heap.size wr u7 (leastTo p j) ∧ Marks Ds W.heap.size wr ∧ Below W.heap.size W wr ∧
    a' = { tmps := #[thV (n : Int) d (.slice ra rl rc), .int .i64 k, .func (.func g) #[] lb, .pointer (some ⟨w.heap.size, 0, none⟩), .pointer (some ⟨w.heap.size + 1, 0, none⟩), .pointer (some ⟨w.heap.size + 1 + 1, 0, none⟩), .slice none 0 0, u7, u8, undef, .pointer (some ⟨w.heap.size, 0, none⟩), .int .i64 n, .int .i64 N, .int .i64 j, u14, u15, u16, u17, u18, u19, u20, u21, u22, undef, undef, undef, undef, undef, u28, u29, u30, u31, u32, undef], defers := Ds.map markAt })
    (fun a' _ => N - (intOf (a'.tmps.getD 13 undef)).toNat) ?_ ?_
  · exact ⟨0, [], _, _, _, _, _, _, _, _, _, _, _, _, _, _, _, _, Nat.zero_le _, OwnI.nil _ _, ⟨List.nodup_nil, fun D hD => by simp at hD⟩, Below.refl _ _, rfl⟩
  · rintro _ wr ⟨j, Ds, u7, u8, u14, u15, u16, u17, u18, u19, u20, u21, u22, u28, u29, u30, u31, u32, hj, hown, hM, hB, rfl⟩
    have HO := Lib.hid hown
    have HM := Lib.hid hM
    clear hown hM
    have cK := (hB.cell (p := ⟨w.heap.size + 1, 0, none⟩) h1W).trans HcK.out
    have cF : wr.cell? ⟨w.heap.size + 1 + 1, 0, none⟩ = some (.func (.func g) #[] lb) := (hB.cell (p := ⟨w.heap.size + 2, 0, none⟩) h2W).trans HcF.out
    have hBw : Below w.heap.size w wr := HB.out.trans (hB.mono (by omega))
    by_cases hlt : j < N
    · have hj32 : j < 4294967296 := by omega
      have HS := Lib.hid (leastTo_succ p j)
      cases hpj : p j
      · have HPj := Lib.hid hpj
        clear hpj
        gi_wp2_with (refine ⟨trivial, ?_⟩; gi_at_fn g; refine (callsIn_wide.2 (HP.out j wr hj32 hBw)).mono ?_; rintro e w1 ⟨rfl, hb1⟩; rw [HPj.out])
        have hmin : leastTo p (j + 1) = leastTo p j := by rw [HS.out, show minB p j = false from by unfold minB; rw [HPj.out]; rfl]; rfl
        rw [show (j : Int) + 1 = ((j + 1 : Nat) : Int) from by omega]
        exact ⟨⟨j + 1, Ds, _, _, _, _, _, _, _, _, _, _, _, _, _, _, _, _, hlt, by rw [hmin]; exact HO.out.below hb1 (Nat.le_refl _), HM.out.below hb1 (Nat.le_refl _), hB.trans (hb1.mono hB.size), rfl⟩, by simp [intOf]; omega⟩
      · have HPj := Lib.hid hpj
        clear hpj
        gi_wp2_with (first | (refine ⟨trivial, ?_⟩; gi_at_call 69; refine (callsIn_wide.2 (parts_any _ _)).mono ?_; rintro e w2 ⟨rfl, rfl⟩) | (refine ⟨trivial, ?_⟩; gi_at_fn g; refine (callsIn_wide.2 (HP.out j wr hj32 hBw)).mono ?_; rintro e w1 ⟨rfl, hb1⟩; rw [HPj.out]))
        obtain ⟨Wp, hWp⟩ : ∃ Wp, Wp = w1.alloc (.cells #[.int .i64 j] 3) := ⟨_, rfl⟩
        have hcz : Wp.cell? ⟨w1.heap.size, 0, none⟩ = some (.int .i64 j) := by rw [hWp]; simp
        have hszp : Wp.heap.size = w1.heap.size + 1 := by rw [hWp]; simp
        have hbp : Below wr.heap.size wr Wp := by rw [hWp]; exact hb1.alloc hb1.size _
        have hzz := hb1.size
        have hzB := hB.size
        rw [← hWp]
        clear hWp
        have hBp : Below W.heap.size W Wp := hB.trans (hbp.mono hB.size)
        have hBwp : Below w.heap.size w Wp := HB.out.trans (hBp.mono (by omega))
        refine wpIn_rangeFunc_ownG rfl (by omega) (gf := 73) (lb := #[.pointer (some ⟨w1.heap.size, 0, none⟩)]) rfl trivial (enters_of Tryd.func73 (by kernel_rfl) rfl)
          (parts1_seq _ w1.heap.size Wp.heap.size ⟨j, hj32⟩ Wp hcz (by omega) (Nat.le_refl _)) belowK_t (belowK_b (Nat.le_refl _)) (Below.refl _ _) (fun _ => rfl)
          (fun pre W' => (∀ x ∈ pre, p x.1 = false) ∧ Below Wp.heap.size Wp W') (fun c pre W' => (c = .exit 1 ∧ ∃ x ∈ pre, p x.1 = true) ∧ Below Wp.heap.size Wp W')
          (OwnFrom.and (ownFrom_pure _ _) (ownFrom_below (Nat.le_refl _) (Nat.le_refl _))) (fun c => OwnFrom.and (ownFrom_pure _ _) (ownFrom_below (Nat.le_refl _) (Nat.le_refl _)))
          ⟨fun x hx => by simp at hx, Below.refl _ _⟩
          (fun x => { tmps := #[thV (n : Int) d (.slice ra rl rc), .int .i64 k, .func (.func g) #[] lb, .pointer (some ⟨w.heap.size, 0, none⟩), .pointer (some ⟨w.heap.size + 1, 0, none⟩), .pointer (some ⟨w.heap.size + 1 + 1, 0, none⟩), .slice none 0 0, u7, .int .i64 j, .int .i64 (x.1 : Int), .pointer (some ⟨w.heap.size, 0, none⟩), .int .i64 n, .int .i64 N, .int .i64 j, .bool true, .int .i64 j, .func (.func g) #[] lb, .int .i64 k, .int .i64 j, .bool true, .bool false, .int .i64 j, .func (.func 73) #[] #[.pointer (some ⟨w1.heap.size, 0, none⟩)], .int .i64 (x.1 : Int), undef, undef, undef, undef, u28, u29, u30, u31, u32, undef], defers := [] }) ?assign ?body ?done ?stop
        case assign =>
          intro l x W' K hK
          gi_wp2
          exact hK
        case body =>
          rintro l pre x W' ⟨hpre, hB'⟩ _
          have hx := x.2
          have hz' := hB'.size
          have hBw' : Below w.heap.size w W' := hBwp.trans (hB'.mono (by omega))
          have hBW' : Below W.heap.size W W' := hBp.trans (hB'.mono (by omega))
          have cK' := (hBW'.cell (p := ⟨w.heap.size + 1, 0, none⟩) h1W).trans HcK.out
          have cF' : W'.cell? ⟨w.heap.size + 1 + 1, 0, none⟩ = some (.func (.func g) #[] lb) := (hBW'.cell (p := ⟨w.heap.size + 2, 0, none⟩) h2W).trans HcF.out
          have Hpre := Lib.hid hpre
          clear hpre
          obtain ⟨x, hx32⟩ := x
          dsimp only at *
          cases hpx : p x
          · have HPx := Lib.hid hpx
            clear hpx
            gi_wp2_with (refine ⟨trivial, ?_⟩; gi_at_fn g; refine (CallsIn.inRound l (callsIn_wide.2 (HP.out x W' hx32 hBw'))).mono ?_; rintro e w3 ⟨rfl, hb3⟩; rw [HPx.out])
            exact ⟨keepsFrom_below hb3, hb3.mono hz', fun y hy => by
              rcases List.mem_append.1 hy with hy | hy
              · exact Hpre.out y hy
              · rw [List.mem_singleton.1 hy]; exact HPx.out, hB'.trans (hb3.mono hz')⟩
          · have HPx := Lib.hid hpx
            clear hpx
            gi_wp2_with (refine ⟨trivial, ?_⟩; gi_at_fn g; refine (CallsIn.inRound l (callsIn_wide.2 (HP.out x W' hx32 hBw'))).mono ?_; rintro e w3 ⟨rfl, hb3⟩; rw [HPx.out])
            exact ⟨keepsFrom_below hb3, ⟨rfl, ⟨x, hx32⟩, by simp, HPx.out⟩, hB'.trans (hb3.mono hz')⟩
        case done =>
          rintro D xs W' hD rfl ⟨hpre, hB'⟩ hK
          have hz' := hB'.size
          have HMin : Hid (leastTo p (j + 1) = leastTo p j ++ [(j : Int)]) := by
            show _ = _
            rw [HS.out, show minB p j = true from min_of_parts HPj.out hpre]
            rfl
          have hBr : Below wr.heap.size wr W' := hbp.trans (hB'.mono (by omega))
          have hown := HO.out.below hBr (Nat.le_refl _)
          have HOw := Lib.hid hown
          have HMk : Hid (Marks (D :: Ds) W.heap.size W') := (HM.out.below hBr (Nat.le_refl _)).cons hK (by omega) (fun h => by have := HM.out.lt h; omega)
          have HBl : Hid (Below W.heap.size W W') := hB.trans (hBr.mono hB.size)
          have hlen := leastTo_length p j
          clear hown hpre hK hB' hBr cK cF hcz hbp hBp hBwp hb1
          gi_wp2_with (gi_at_builtin; refine wpListIn_append_own _ rfl _ _ 26 rfl W.heap.size 3 i0 (.int .i64 0) 1 8 Tryd.underlying26 hi hz0 hz1 hz2 rfl (by decide) u7 (leastTo p j).length _ rfl (World.ownsRow.alloc HOw.out _) ⟨W'.heap.size, 0, none⟩ 1 1 [.int .i64 j] rfl rfl (cell_one_new _ _ _) (by simp [Value.oneCell']) (by unfold maxLen; omega) (by omega) (by simp; omega) ?_; intro v' w4 hown' hgrow _)
          rw [show (j : Int) + 1 = ((j + 1 : Nat) : Int) from by omega]
          have hMa : Marks (D :: Ds) W.heap.size (W'.alloc (.cells #[.int .i64 j] 3)) := HMk.out.below ((Below.refl _ _).alloc (Nat.le_refl _) _) (Nat.le_refl _)
          have hOa : OwnI W.heap.size (W'.alloc (.cells #[.int .i64 j] 3)) u7 (leastTo p j) := World.ownsRow.alloc HOw.out _
          refine ⟨⟨j + 1, D :: Ds, _, _, _, _, _, _, _, _, _, _, _, _, _, _, _, _, hlt, ?_, hMa.grown hgrow hOa.cells_block, (HBl.out.alloc HBl.out.size _).grown hgrow (by simp; omega) fun k hk => (World.ownsRow.lt HOw.out k hk).1, rfl⟩, by simp [intOf]; omega⟩
          rw [HMin.out]
          unfold OwnI
          rw [List.length_append, List.map_append]
          exact hown'
        case stop =>
          rintro D c pre W' hD hpre ⟨⟨rfl, x, hx, hpx⟩, hB'⟩ hK
          have hz' := hB'.size
          have HMin : Hid (leastTo p (j + 1) = leastTo p j) := by
            show _ = _
            rw [HS.out, show minB p j = false from min_of_part hpre hx hpx]
            rfl
          have hBr : Below wr.heap.size wr W' := hbp.trans (hB'.mono (by omega))
          have HOw := Lib.hid (HO.out.below hBr (Nat.le_refl _))
          have HMk : Hid (Marks (D :: Ds) W.heap.size W') := (HM.out.below hBr (Nat.le_refl _)).cons hK (by omega) (fun h => by have := HM.out.lt h; omega)
          have HBl : Hid (Below W.heap.size W W') := hB.trans (hBr.mono hB.size)
          clear hpre hpx hK hB' hBr cK cF hcz hbp hBp hBwp hb1
          gi_wp2
          rw [show (j : Int) + 1 = ((j + 1 : Nat) : Int) from by omega]
          exact ⟨⟨j + 1, D :: Ds, _, _, _, _, _, _, _, _, _, _, _, _, _, _, _, _, hlt, by rw [HMin.out]; exact HOw.out, HMk.out, HBl.out, rfl⟩, by simp [intOf]; omega⟩
    · obtain rfl : j = N := by omega
      gi_wp2
      rw [Exit.noGoto_ret]
      refine leaves_marks Ds wr HM.out fun W' hb' hk' => ?_
      obtain ⟨f1, f2⟩ := HFin.out W' u7 (HO.out.keeps hk') (hB.trans hb')
      exact ⟨_, results_tmp rfl _ _ _, u7, rfl, f1, f2⟩
end Go.Proofs.YtmihkbiihfhpoaaDoor
