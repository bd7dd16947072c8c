/- justify.meets, held. -/
import Derived.Test.YtmihkbiihfhpoaaDoorJApp
import Derived.WalkMore
import Derived.Deep.LoopGhost
namespace Go.Proofs.YtmihkbiihfhpoaaDoor
open Go.RowKit Go.Shelf

theorem i64_and1 (z : Int) : bits .and .i64 z (1 : Int) = z % (2 : Int) := by
  show IntKind.i64.wrap ((BitVec.ofInt 64 z &&& BitVec.ofInt 64 1).toNat : Int) = _
  rw [BitVec.toNat_and, show (BitVec.ofInt 64 1).toNat = 2 ^ 1 - 1 from by decide, Nat.and_two_pow_sub_one_eq_mod, BitVec.toNat_ofInt, IntKind.wrap_i64]
  omega
attribute [local go_sem] i64_and1
/-- A bit. -/
def bitB (S : Nat) (n : Int) : Bool := S.testBit n.toNat
theorem bit_eq0 (S n : Nat) : ((((S : Int) / 2 ^ n) % 2 : Int) == 0) = !S.testBit n := by
  have : ((S : Int) / 2 ^ n) % 2 = ((S / 2 ^ n % 2 : Nat) : Int) := by push_cast; rfl
  rw [this, Nat.testBit_eq_decide_div_mod_eq]
  rcases Nat.mod_two_eq_zero_or_one (S / 2 ^ n) with h | h <;> simp [h]
theorem meets1_any (S : Nat) (n : Nat) (C : Nat) (w : World) (hn : n < 64) (hC : w.cell? ⟨C, 0, none⟩ = some (.int .i64 S)) :
    Calls Tryd.prog 70 #[.int .i64 n, .pointer (some ⟨C, 0, none⟩)] w fun e w' => e = .returned (.bool (!S.testBit n)) ∧ w = w' := by
  have he := Lib.hid (bit_eq0 S n)
  go_enter Tryd.func70, Tryd.ntmps70
  go_wp2
  go_ret
  exact ⟨by rw [← he.out]; rfl, rfl⟩

theorem egm : ∀ args w, (callFunc 70 args).run Tryd.prog w = .ok (.enter 70 args) w := enters_of Tryd.func70 (by kernel_rfl) rfl
def meetsB (l : List Int) (S : Nat) : Bool := l.all (bitB S)
theorem not_any_bits (l : List Int) (S : Nat) : (!l.any fun z => !bitB S z) = meetsB l S := by
  unfold meetsB
  induction l with
  | nil => rfl
  | cons z t ih => simp only [List.any_cons, List.all_cons, Bool.not_or, Bool.not_not, ih]
set_option maxRecDepth 100000 in
theorem meets_any (nv : Value) (g : Int) (l : List Int) (S : Nat) (w : World) (hN : IntsAt w.heap.size w nv l) (hl : ∀ z ∈ l, 0 ≤ z ∧ z < 32) :
    Calls Tryd.prog 65 #[ruleV nv g, .int .i64 S] w fun e w' => e = .returned (.bool (meetsB l S)) ∧ Below w.heap.size w w' := by
  obtain ⟨W, hW⟩ : ∃ W, W = ((w.alloc (.cells #[nv, .int .i64 g] 48)).alloc (.cells #[.int .i64 S] 3)) := ⟨_, rfl⟩
  have hbW : Below w.heap.size w W := by rw [hW]; exact ((Below.refl _ _).alloc (Nat.le_refl _) _).alloc (by simp) _
  have hszW : W.heap.size = w.heap.size + 2 := by rw [hW]; simp
  have hbox : Boxed W (w.heap.size + 1) 3 (.int .i64 S) := by rw [hW]; have := Boxed.new (w.alloc (.cells #[nv, .int .i64 g] 48)) 3 (.int .i64 S); rwa [World.size_alloc] at this
  have hcon := contains_int 70 #[.pointer (some ⟨w.heap.size + 1, 0, none⟩)] egm nv l W (fun _ W' => Below W.heap.size W W') (fun i => !bitB S (l.getD i 0)) w.heap.size (hN.below hbW (Nat.le_refl _))
    (Below.refl _ _) (fun i W' h => h.mono (by omega)) (fun i W' hi h => by
      have hz := hl (l.getD i 0) (by rw [List.getD_eq_getElem?_getD, List.getElem?_eq_getElem hi]; exact List.getElem_mem hi)
      obtain ⟨n, hn⟩ := Int.eq_ofNat_of_zero_le hz.1
      rw [hn] at hz ⊢
      refine (meets1_any S n (w.heap.size + 1) W' (by omega) (boxed_below hbox h hbox.lt).cell).mono ?_
      rintro e w' ⟨rfl, rfl⟩
      exact ⟨by simp [bitB], h⟩)
  rw [any_getD (fun z => !bitB S z) 0 l] at hcon
  have HM := Lib.hid (not_any_bits l S)
  generalize (l.any fun z => !bitB S z) = b at hcon HM
  have HCon := Lib.hid hcon
  rw [hW] at HCon
  have HFin : Hid (∀ w' : World, Below W.heap.size W w' → Below w.heap.size w w') := fun w' hb => hbW.trans (hb.mono hbW.size)
  rw [hW] at HFin
  obtain ⟨a, c, rfl, _⟩ := hN
  clear hcon hbox hbW hW hszW
  unfold ruleV
  go_enter Tryd.func65, Tryd.ntmps65
  go_wp2_with (go_at_call 44; refine HCon.out.mono ?_; rintro e w' ⟨rfl, i, hi⟩)
  go_ret
  exact ⟨by rw [← HM.out]; rfl, HFin.out _ hi⟩

def firesB (r : JRule) (S : Nat) : Bool := !bitB S r.gives && meetsB r.needs S
def addB (S : Nat) (g : Int) : Nat := S ||| 2 ^ g.toNat
/-- What held does, in at most so many steps. -/
def heldGo (rs : List JRule) : Nat → Nat → List Int → Nat × List Int
  | 0, S, b => (S, b)
  | k + 1, S, b => match rs.findIdx? (firesB · S) with
    | none => (S, b)
    | some i => heldGo rs k (addB S (rs.getD i default).gives) (b ++ [(i : Int)])
def heldF (rs : List JRule) (S : Nat) : Nat × List Int := heldGo rs rs.length S []
def missing (rs : List JRule) (S : Nat) : Nat := rs.countP fun r => !bitB S r.gives
theorem missing_le (rs : List JRule) (S : Nat) : missing rs S ≤ rs.length := List.countP_le_length
theorem bit_add (S : Nat) (g : Int) (z : Int) : bitB (addB S g) z = (bitB S z || decide (g.toNat = z.toNat)) := by
  unfold bitB addB
  rw [Nat.testBit_or, Nat.testBit_two_pow]
theorem countP_lt {α : Type} (p q : α → Bool) : ∀ (l : List α), (∀ x ∈ l, q x = true → p x = true) → (∃ x ∈ l, p x = true ∧ q x = false) → l.countP q < l.countP p
  | [], _, ⟨x, hx, _⟩ => by simp at hx
  | y :: t, h, ⟨x, hx, h1, h2⟩ => by
    have hle : t.countP q ≤ t.countP p := List.countP_mono_left fun z hz hq => h z (by simp [hz]) hq
    rw [List.countP_cons, List.countP_cons]
    rcases List.mem_cons.1 hx with rfl | hx'
    · rw [if_pos h1, if_neg (by simp [h2])]
      omega
    · have := countP_lt p q t (fun z hz => h z (by simp [hz])) ⟨x, hx', h1, h2⟩
      by_cases hqy : q y = true
      · rw [if_pos hqy, if_pos (h y (by simp) hqy)]; omega
      · rw [if_neg hqy]; omega
theorem missing_add (rs : List JRule) (S : Nat) (r : JRule) (hr : r ∈ rs) (hb : bitB S r.gives = false) : missing rs (addB S r.gives) < missing rs S := by
  apply countP_lt
  · intro x _ hx
    rw [bit_add] at hx
    simp at hx ⊢
    exact hx.1
  · exact ⟨r, hr, by simp [hb], by rw [bit_add]; simp⟩
theorem fst_some (rs : List JRule) (S i : Nat) (hi : i < rs.length) (h : firesB (rs.getD i default) S = true) (hj : ∀ j, j < i → firesB (rs.getD j default) S = false) : rs.findIdx? (firesB · S) = some i := by
  rw [List.findIdx?_eq_some_iff_getElem]
  refine ⟨hi, ?_, fun j hj' => ?_⟩
  · rw [List.getD_eq_getElem?_getD, List.getElem?_eq_getElem hi] at h; exact h
  · have := hj j hj'
    rw [List.getD_eq_getElem?_getD, List.getElem?_eq_getElem (by omega)] at this
    simpa using this
theorem fst_none (rs : List JRule) (S : Nat) (hj : ∀ j, j < rs.length → firesB (rs.getD j default) S = false) : rs.findIdx? (firesB · S) = none := by
  rw [List.findIdx?_eq_none_iff]
  intro x hx
  obtain ⟨i, hi, rfl⟩ := List.getElem_of_mem hx
  have := hj i hi
  rwa [List.getD_eq_getElem?_getD, List.getElem?_eq_getElem hi] at this
theorem heldGo_none (rs : List JRule) (k S : Nat) (b : List Int) (h : rs.findIdx? (firesB · S) = none) : heldGo rs k S b = (S, b) := by
  cases k with
  | zero => rfl
  | succ k => simp only [heldGo, h]
theorem heldGo_some (rs : List JRule) (k S i : Nat) (b : List Int) (h : rs.findIdx? (firesB · S) = some i) : heldGo rs (k + 1) S b = heldGo rs k (addB S (rs.getD i default).gives) (b ++ [(i : Int)]) := by
  simp only [heldGo, h]
theorem i64_or_nat (S p : Nat) (hS : S < 4294967296) (hp : p < 4294967296) : bits .or .i64 (S : Int) (p : Int) = ((S ||| p : Nat) : Int) ∧ (S ||| p : Nat) < 4294967296 := by
  have hor : (S ||| p : Nat) < 2 ^ 32 := Nat.or_lt_two_pow (by omega) (by omega)
  refine ⟨?_, by omega⟩
  show IntKind.i64.wrap ((BitVec.ofInt 64 (S : Int) ||| BitVec.ofInt 64 (p : Int)).toNat : Int) = _
  rw [BitVec.toNat_or, BitVec.toNat_ofInt, BitVec.toNat_ofInt, IntKind.wrap_i64]
  rw [show ((S : Int) % ((2 ^ 64 : Nat) : Int)).toNat = S from by omega, show ((p : Int) % ((2 ^ 64 : Nat) : Int)).toNat = p from by omega]
  omega
theorem pow_lt32 {n : Nat} (hn : n < 32) : 2 ^ n < 4294967296 := by have := Nat.pow_lt_pow_right (a := 2) (by omega) hn; omega
theorem shl_one (n : Nat) (hn : n < 32) : wrap64 (2 ^ n) = ((2 ^ n : Nat) : Int) := by
  have h2 := pow_lt32 hn
  have h3 : 0 < 2 ^ n := Nat.pow_pos (by omega)
  rw [show (2 : Int) ^ n = ((2 ^ n : Nat) : Int) from by push_cast; rfl]
  unfold wrap64
  generalize 2 ^ n = p at *
  omega
theorem or_bit (S n : Nat) (hS : S < 4294967296) (hn : n < 32) : bits .or .i64 (S : Int) (wrap64 (2 ^ n)) = ((S ||| 2 ^ n : Nat) : Int) ∧ (S ||| 2 ^ n : Nat) < 4294967296 := by
  rw [shl_one n hn]
  exact i64_or_nat S _ hS (pow_lt32 hn)
/-- The rules that are sound. -/
def GoodR (rs : List JRule) : Prop := rs.length ≤ 40 ∧ ∀ r ∈ rs, (∀ z ∈ r.needs, 0 ≤ z ∧ z < 32) ∧ 0 ≤ r.gives ∧ r.gives < 32
theorem getD_mem {α : Type} (l : List α) (d : α) (i : Nat) (h : i < l.length) : l.getD i d ∈ l := by
  rw [List.getD_eq_getElem?_getD, List.getElem?_eq_getElem h]; exact List.getElem_mem h

/-- Between two rounds of the search. -/
def HeldI (rs : List JRule) (S0 : Nat) (base : Nat) (W0 : World) (S : Nat) (v : Value) (wr : World) : Prop :=
  ∃ k b, heldF rs S0 = heldGo rs k S b ∧ missing rs S ≤ k ∧ b.length + k ≤ 40 ∧ S < 4294967296 ∧ OwnI base wr v b ∧ Below base W0 wr
set_option maxRecDepth 100000 in
set_option maxHeartbeats 1000000 in
theorem held_any (s d : Int) (rs : List JRule) (rv : Value) (S0 : Nat) (w : World) (hR : RulesAt w.heap.size w rv rs) (hG : GoodR rs) (hS : S0 < 4294967296) :
    Calls Tryd.prog 48 #[thV s d rv, .int .i64 S0] w fun e w' => ∃ v, e = .returned (.tuple #[.int .i64 (heldF rs S0).1, v]) ∧ OwnI w.heap.size w' v (heldF rs S0).2 ∧ Below w.heap.size w w' := by
  obtain ⟨W, hW⟩ : ∃ W, W = w.alloc (.cells #[.int .i64 s, .int .i64 d, rv] 25) := ⟨_, rfl⟩
  have hbW : Below w.heap.size w W := by rw [hW]; exact (Below.refl _ _).alloc (Nat.le_refl _) _
  have hszW : W.heap.size = w.heap.size + 1 := by rw [hW]; simp
  have hTb : ThBox W w.heap.size s d rv := by rw [hW]; exact ThBox.new _ _ _ _
  have hG40 := hG.1
  obtain ⟨a, c, rfl, hlc, hcm, hcells⟩ := hR
  unfold maxLen at hcm
  have HG := Lib.hid hG
  have HT := Lib.hid hTb
  have HW := Lib.hid hW
  have HbW := Lib.hid hbW
  have HC := Lib.hid hcells
  clear hG hTb hbW hcells
  generalize hn : rs.length = n at *
  have Hn := Lib.hid hn
  clear hn
  go_enter Tryd.func48, Tryd.ntmps48
  go_wp2
  go_step3
  go_wp2
  go_step3
  go_wp2
  rw [← HW.out]
  clear hW
  go_loopg [1, 6] (missing rs S0) (fun gg s v wr => ∃ S : Nat, s = .int .i64 S ∧ missing rs S ≤ gg ∧ HeldI rs S0 (w.heap.size + 1) W S v wr)
  case atStart => exact ⟨S0, rfl, Nat.le_refl _, rs.length, [], rfl, missing_le _ _, by have := Hn.out; simp; omega, hS, OwnI.nil _ _, Below.refl _ _⟩
  case round =>
    obtain ⟨S, rfl, hmg, hI⟩ := hrel
    have HI := Lib.hid hI
    obtain ⟨k, b, e1, e2, e3, hS', hown, hB⟩ := hI
    obtain ⟨av, cv, hv⟩ := hown.shape
    have cT := (HT.out.below hB (by omega)).c2
    have HE1 := Lib.hid e1
    have HE2 := Lib.hid e2
    have HOwn := Lib.hid hown
    clear e1 e2 hown HI
    go_wp2
    have HV := Lib.hid hv
    obtain ⟨wo, hwo⟩ : ∃ wo : World, wo = wr := ⟨_, rfl⟩
    obtain ⟨vo, hvo⟩ : ∃ vo : Value, vo = u6 := ⟨_, rfl⟩
    rw [← hvo] at HOwn
    rw [← hwo] at HOwn hB
    clear hv
    go_loopg [1, 6, 12] n (fun g2 s v i wy => ∃ j : Nat, j + g2 = n ∧ i = .int .i64 j ∧ s = .int .i64 S ∧ v = vo ∧ Below wo.heap.size wo wy ∧ Hid (∀ t, t < j → firesB (rs.getD t default) S = false))
    case atStart => exact ⟨0, by omega, rfl, rfl, hvo.symm, by rw [hwo]; exact Below.refl _ _, fun t ht => by omega⟩
    case round =>
      obtain ⟨j, hj, rfl, rfl, hv6, hBy, HF⟩ := hrel
      clear hvo hwo
      subst hv6
      have hszo := hB.size
      have hszy := hBy.size
      have hBw : Below w.heap.size w wo := HbW.out.trans (hB.mono (by omega))
      have hBwy : Below w.heap.size w wr := hBw.trans (hBy.mono (by omega))
      by_cases hlt : j < n
      · obtain ⟨b0, off, rfl, hb0, hc⟩ := HC.out (by omega)
        obtain ⟨nv, d1, d2, d3⟩ := hc j hlt
        have c1 := (hBwy.cell (p := ⟨b0, off + j * 2, none⟩) hb0).trans d1
        have c2 := (hBwy.cell (p := ⟨b0, off + j * 2 + 1, none⟩) hb0).trans d2
        have d4 := d3.below hBwy (Nat.le_refl _)
        have hgood := HG.out.2 (rs.getD j default) (getD_mem _ _ _ (by have := Hn.out; omega))
        have HR := Lib.hid (show firesB (rs.getD j default) S = (!bitB S (rs.getD j default).gives && meetsB (rs.getD j default).needs S) from rfl)
        have HM : Hid ((rs.getD j default) ∈ rs) := getD_mem _ _ _ (by have := Hn.out; omega)
        obtain ⟨g, hg⟩ := Int.eq_ofNat_of_zero_le hgood.2.1
        have hg32 : g < 32 := by omega
        have hneeds := hgood.1
        rw [hg] at c2 HR
        have Hg := Lib.hid hg
        clear d1 d2 d3 hc hgood hg
        obtain ⟨ad, cd, hnv, hd5, hd6, _⟩ := id d4
        have d8 : IntsAt (wr.heap.size + 1) (wr.alloc (.cells #[nv, .int .i64 g] 48)) nv (rs.getD j default).needs := (d4.below ((Below.refl _ _).alloc (Nat.le_refl _) _) hBwy.size).mono (by omega)
        have HN : Hid (IntsAt (wr.alloc (.cells #[nv, .int .i64 g] 48)).heap.size (wr.alloc (.cells #[nv, .int .i64 g] 48)) nv (rs.getD j default).needs) := by rw [World.size_alloc]; exact d8
        clear d4 d8
        have hbit := bit_eq0 S g
        have hbitB : bitB S (g : Int) = S.testBit g := by simp [bitB]
        rw [hbitB] at HR
        have jj : (j : Int) < (n : Int) := by omega
        have hBa : Below wo.heap.size wo (wr.alloc (.cells #[nv, .int .i64 g] 48)) := hBy.alloc hszy _
        have HBa := Lib.hid hBa
        have HOr := Lib.hid (or_bit S g hS' hg32)
        have HAdd : Hid (addB S ((g : Nat) : Int) = S ||| 2 ^ g) := by show _ = _; simp [addB]
        have HNeeds := Lib.hid hneeds
        clear hBa hneeds hBw
        subst hnv
        generalize hgv : rs.getD j default = r at *
        have Hgv := Lib.hid hgv
        clear hgv
        cases hbt : S.testBit g
        · rw [hbt] at hbit HR
          have HBt := Lib.hid hbt
          clear hbt hbitB
          cases hmt : meetsB r.needs S
          · rw [hmt] at HR
            have HMt := Lib.hid hmt
            clear hmt
            unfold ruleV at *
            go_wp2_with (go_at_call 65; refine (meets_any _ _ _ _ _ HN.out HNeeds.out).mono ?_; rintro e w2 ⟨rfl, hb2⟩; rw [HMt.out])
            go_roundg (gk - 1)
            case measure => omega
            case rel => exact ⟨j + 1, by omega, by go_num, rfl, rfl, HBa.out.trans (hb2.mono (by simp; omega)), fun t ht => by
              by_cases e : t = j
              · rw [e, Hgv.out, HR.out]; rfl
              · exact HF.out t (by omega)⟩
          · rw [hmt] at HR
            have HMt := Lib.hid hmt
            clear hmt
            unfold ruleV at *
            have hor := HOr.out.1
            have hkp : 0 < k := by
              have h1 := missing_add rs S r HM.out (by rw [Hg.out]; simpa [bitB] using HBt.out)
              have h2 := HE2.out
              omega
            have HS2 := Lib.hid HOr.out.2
            generalize hS2 : S ||| 2 ^ g = S2 at *
            have HS3 := Lib.hid hS2
            clear hS2
            go_wp2_with (first | (go_at_call 65; refine (meets_any _ _ _ _ _ HN.out HNeeds.out).mono ?_; rintro e w2 ⟨rfl, hb2⟩; rw [HMt.out]; have hc2 : w2.cell? ⟨wr.heap.size, 1, none⟩ = some (.int .i64 g) := (hb2.cell (p := ⟨wr.heap.size, 1, none⟩) (by simp)).trans (by simp); have hz2 := hb2.size; have hBo2 : Below wo.heap.size wo w2 := HBa.out.trans (hb2.mono (by simp; omega))) | (at_builtin; refine append_int1 rfl _ _ rfl (w.heap.size + 1) u6 b _ rfl rfl (HOwn.out.below hBo2 (Nat.le_refl _)) (by omega) (by simp at hz2; omega) W (hB.trans (hBo2.mono (by omega))) ?_; intro v' w3 hown3 hb3))
            go_roundg (missing rs (addB S r.gives))
            case measure =>
              have h1 := missing_add rs S r HM.out (by rw [Hg.out]; simpa [bitB] using HBt.out)
              omega
            case rel =>
              have hadd : addB S r.gives = S2 := by rw [Hg.out, HAdd.out]
              refine ⟨S2, rfl, by rw [hadd]; exact Nat.le_refl _, k - 1, b ++ [(j : Int)], ?_, ?_, by simp; omega, HS2.out, hown3, hb3⟩
              · rw [HE1.out]
                obtain ⟨k', rfl⟩ : ∃ k', k = k' + 1 := ⟨k - 1, by omega⟩
                rw [heldGo_some rs k' S j b (fst_some rs S j (by have := Hn.out; omega) (by rw [Hgv.out, HR.out]; rfl) HF.out), Hgv.out, hadd]
                rfl
              · have h1 := missing_add rs S r HM.out (by rw [Hg.out]; simpa [bitB] using HBt.out)
                have h2 := HE2.out
                rw [hadd] at h1
                omega
        · rw [hbt] at hbit HR
          have HBt := Lib.hid hbt
          clear hbt hbitB
          go_wp2
          go_roundg (gk - 1)
          case measure => omega
          case rel => exact ⟨j + 1, by omega, by go_num, rfl, rfl, HBa.out, fun t ht => by
            by_cases e : t = j
            · rw [e, Hgv.out, HR.out]; rfl
            · exact HF.out t (by omega)⟩
      · obtain rfl : j = n := by omega
        have hOw := HOwn.out.below hBy (Nat.le_refl _)
        have HOw := Lib.hid hOw
        have hfin : heldF rs S0 = (S, b) := by rw [HE1.out]; exact heldGo_none rs k S b (fst_none rs S (by rw [Hn.out]; exact HF.out))
        have HFin := Lib.hid hfin
        clear hOw hfin
        go_wp2
        rw [Exit.noGoto_ret]
        go_ret2
        exact ⟨u6, by rw [HFin.out]; rfl, by rw [HFin.out]; exact HOw.out.mono (Nat.le_succ _), hBwy⟩
end Go.Proofs.YtmihkbiihfhpoaaDoor
