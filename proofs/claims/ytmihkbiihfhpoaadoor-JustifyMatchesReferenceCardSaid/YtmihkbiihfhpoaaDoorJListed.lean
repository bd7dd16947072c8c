/- The reference's Listed; meets and has of the statements. -/
import Derived.Test.YtmihkbiihfhpoaaDoorJSmall
namespace Go.Proofs.YtmihkbiihfhpoaaDoor
open Go.RowKit Go.Shelf

def bitsTo (S n : Nat) : List Int := ((List.range n).filter S.testBit).map fun (i : Nat) => (i : Int)
theorem bitsTo_succ (S n : Nat) : bitsTo S (n + 1) = if S.testBit n then bitsTo S n ++ [(n : Int)] else bitsTo S n := by
  unfold bitsTo
  rw [List.range_succ, List.filter_append, List.map_append]
  cases h : S.testBit n <;> simp [h]
theorem bitsTo_length (S n : Nat) : (bitsTo S n).length ≤ n := by
  unfold bitsTo
  rw [List.length_map]
  have := List.length_filter_le S.testBit (List.range n)
  rwa [List.length_range] at this
theorem bitsTo_end (S : Nat) : ∀ (d n : Nat), S < 2 ^ n → bitsTo S (n + d) = bitsTo S n
  | 0, _, _ => rfl
  | d + 1, n, h => by
    rw [← Nat.add_assoc, bitsTo_succ, if_neg, bitsTo_end S d n h]
    rw [Nat.testBit_lt_two_pow (Nat.lt_of_lt_of_le h (Nat.pow_le_pow_right (by omega) (by omega)))]
    simp
theorem bitsTo_list (S n : Nat) (h : S < 2 ^ n) (hn : n ≤ 32) : bitsTo S n = listB S := by
  have := bitsTo_end S (32 - n) n h
  rw [show n + (32 - n) = 32 from by omega] at this
  exact this.symm
theorem shr_pos (S n : Nat) : (0 < (S : Int) / 2 ^ n) = (2 ^ n ≤ S) := by
  have e : ((S : Int) / 2 ^ n) = ((S / 2 ^ n : Nat) : Int) := by push_cast; rfl
  rw [e]
  have hp : 0 < 2 ^ n := Nat.pow_pos (by omega)
  have := Nat.div_pos_iff (b := 2 ^ n) (a := S)
  simp only [Int.natCast_pos, this, eq_iff_iff]
  exact ⟨fun h => h.2, fun h => ⟨hp, h⟩⟩
set_option maxRecDepth 100000 in
set_option maxHeartbeats 1000000 in
theorem listedR_any (S : Nat) (w : World) (hS : S < 4294967296) :
    Calls Tryd.prog 38 #[.int .i64 S] w fun e w' => ∃ v, e = .returned v ∧ OwnI w.heap.size w' v (listB S) ∧ Below w.heap.size w w' := by
  go_enter Tryd.func38, Tryd.ntmps38
  go_wp2
  go_loopw [3, 4] (fun v i wr => ∃ n : Nat, n ≤ 32 ∧ i = .int .i64 n ∧ OwnI w.heap.size wr v (bitsTo S n) ∧ Below w.heap.size w wr) (fun _ i _ => 32 - (intOf i).toNat)
  case atStart => exact ⟨0, by omega, rfl, OwnI.nil _ _, Below.refl _ _⟩
  case round =>
    obtain ⟨n, hn, rfl, hown, hB⟩ := hrel
    have HO := Lib.hid hown
    clear hown
    have hsz := hB.size
    by_cases hlt : 2 ^ n ≤ S
    · have hn32 : n < 32 := by
        apply Classical.byContradiction
        intro h
        have : 2 ^ 32 ≤ 2 ^ n := Nat.pow_le_pow_right (by omega) (by omega)
        omega
      have hpos : decide (0 < (S : Int) / 2 ^ n) = true := decide_eq_true (by rw [shr_pos]; exact hlt)
      have HS := Lib.hid (bitsTo_succ S n)
      have hlen := bitsTo_length S n
      clear hlt
      cases hb : S.testBit n
      · have HBt := Lib.hid hb
        rw [hb, if_neg (by simp)] at HS
        clear hb
        go_wp2_with (go_at_call 54; refine (hasR_any _ _ _ (by omega) (by omega)).mono ?_; rintro e w2 ⟨rfl, rfl⟩; rw [HBt.out])
        go_roundw
        case rel => exact ⟨n + 1, by omega, by go_num, by rw [HS.out]; exact HO.out, hB⟩
        case measure => simp [intOf]; omega
      · have HBt := Lib.hid hb
        rw [hb, if_pos rfl] at HS
        clear hb
        go_wp2_with (first | (go_at_call 54; refine (hasR_any _ _ _ (by omega) (by omega)).mono ?_; rintro e w2 ⟨rfl, rfl⟩; rw [HBt.out]) | (at_builtin; refine append_int1 rfl _ _ rfl w.heap.size u3 (bitsTo S n) _ rfl rfl HO.out (by omega) hsz w hB ?_; intro v' w3 hown3 hb3))
        go_roundw
        case rel => exact ⟨n + 1, by omega, by go_num, by rw [HS.out]; exact hown3, hb3⟩
        case measure => simp [intOf]; omega
    · have hpos : decide (0 < (S : Int) / 2 ^ n) = false := decide_eq_false (by rw [shr_pos]; exact hlt)
      have HL := Lib.hid (bitsTo_list S n (by omega) hn)
      rw [HL.out] at HO
      clear hlt
      go_wp2
      go_ret
      exact ⟨u3, rfl, HO.out, hB⟩

/-- meets, has of the statements. -/
def meetsAll (s : Nat) (l : List Int) : Bool := l.all fun z => !(s &&& z.toNat == 0)
def hasOne (s : Nat) (l : List Int) : Bool := l.any fun z => subB z.toNat s
theorem all_take {α : Type} (p : α → Bool) (d : α) (l : List α) (j : Nat) (h : j < l.length) : (l.take (j + 1)).all p = ((l.take j).all p && p (l.getD j d)) := by
  rw [List.take_succ_eq_append_getElem h, List.all_append, List.getD_eq_getElem?_getD, List.getElem?_eq_getElem h]
  simp
theorem any_of_mem {α : Type} {p : α → Bool} {l : List α} {x : α} (h : x ∈ l) (hp : p x = true) : l.any p = true := List.any_eq_true.2 ⟨x, h, hp⟩
theorem all_of_mem {α : Type} {p : α → Bool} {l : List α} {x : α} (h : x ∈ l) (hp : p x = false) : l.all p = false := List.all_eq_false.2 ⟨x, h, by simp [hp]⟩
set_option maxRecDepth 100000 in
set_option maxHeartbeats 400000 in
theorem lawMeets_any (s : Nat) (v : Value) (l : List Int) (w : World) (hl : IntsAt w.heap.size w v l) (hs : s < 4294967296) (hb : ∀ z ∈ l, 0 ≤ z ∧ z < 4096) :
    Calls Tryd.prog 33 #[.int .i64 s, v] w fun e w' => e = .returned (.bool (meetsAll s l)) ∧ Below w.heap.size w w' := by
  obtain ⟨a, c, rfl, hlc, hcm⟩ := hl.shape
  have HI := Lib.hid hl
  have HBd := Lib.hid hb
  clear hl hb
  unfold maxLen at hcm
  generalize hm : l.length = m at *
  have Hm := Lib.hid hm
  clear hm
  go_enter Tryd.func33, Tryd.ntmps33
  go_wp2
  go_loopw [5] (fun i wr => ∃ j : Nat, j ≤ m ∧ i = .int .i64 j ∧ Hid ((l.take j).all (fun z => !(s &&& z.toNat == 0)) = true) ∧ Below w.heap.size w wr) (fun i _ => m - (intOf i).toNat)
  case atStart => exact ⟨0, Nat.zero_le _, rfl, by show _ = _; simp, Below.refl _ _⟩
  case round =>
    obtain ⟨j, hj, rfl, HF, hB⟩ := hrel
    by_cases hlt : j < m
    · obtain ⟨b, off, hae, hbb, hcl⟩ := HI.out.at j (by rw [Hm.out]; exact hlt)
      subst hae
      have HS := Lib.hid (all_take (fun z : Int => !(s &&& z.toNat == 0)) 0 l j (by rw [Hm.out]; exact hlt))
      rw [HF.out, Bool.true_and] at HS
      have HM : Hid (l.getD j 0 ∈ l) := getD_mem _ _ _ (by rw [Hm.out]; exact hlt)
      have hzb := HBd.out _ HM.out
      have jj : (j : Int) < (m : Int) := by omega
      have c1 := (hB.cell (p := ⟨b, off + j, none⟩) hbb).trans hcl
      clear hcl
      generalize l.getD j 0 = z at *
      obtain ⟨x, rfl⟩ := Int.eq_ofNat_of_zero_le hzb.1
      rw [Int.toNat_natCast] at HS
      have hand := i64_and_nat s x (by omega) (by omega)
      have Hq : Hid ((fun z : Int => !(s &&& z.toNat == 0)) (x : Int) = !(s &&& x == 0)) := by show _ = _; simp
      generalize s &&& x = q at *
      by_cases hq : q = 0
      · subst hq
        go_wp2
        go_ret
        exact ⟨ret_bool (all_of_mem (p := fun z : Int => !(s &&& z.toNat == 0)) HM.out (by rw [Hq.out]; rfl)).symm, hB⟩
      · have hq0 : ((q : Int) == 0) = false := by simp; omega
        have hq1 : (q == 0) = false := by simp [hq]
        rw [hq1] at HS
        clear hq1 hq
        go_wp2
        go_roundw
        case rel => exact ⟨j + 1, by omega, by go_num, HS.out, hB⟩
        case measure => simp [intOf]; omega
    · obtain rfl : j = m := by omega
      have HF2 : Hid (meetsAll s l = true) := by show _ = _; have := HF.out; rw [List.take_of_length_le (by rw [Hm.out]; exact Nat.le_refl _)] at this; exact this
      clear HF
      go_wp2
      go_ret
      exact ⟨ret_bool HF2.out.symm, hB⟩
set_option maxRecDepth 100000 in
set_option maxHeartbeats 400000 in
theorem lawHas_any (s : Nat) (v : Value) (l : List Int) (w : World) (hl : IntsAt w.heap.size w v l) (hs : s < 4294967296) (hb : ∀ z ∈ l, 0 ≤ z ∧ z < 4096) :
    Calls Tryd.prog 34 #[.int .i64 s, v] w fun e w' => e = .returned (.bool (hasOne s l)) ∧ Below w.heap.size w w' := by
  obtain ⟨a, c, rfl, hlc, hcm⟩ := hl.shape
  have HI := Lib.hid hl
  have HBd := Lib.hid hb
  clear hl hb
  unfold maxLen at hcm
  generalize hm : l.length = m at *
  have Hm := Lib.hid hm
  clear hm
  go_enter Tryd.func34, Tryd.ntmps34
  go_wp2
  go_loopw [5] (fun i wr => ∃ j : Nat, j ≤ m ∧ i = .int .i64 j ∧ Hid ((l.take j).any (fun z => subB z.toNat s) = false) ∧ Below w.heap.size w wr) (fun i _ => m - (intOf i).toNat)
  case atStart => exact ⟨0, Nat.zero_le _, rfl, by show _ = _; simp, Below.refl _ _⟩
  case round =>
    obtain ⟨j, hj, rfl, HF, hB⟩ := hrel
    by_cases hlt : j < m
    · obtain ⟨b, off, hae, hbb, hcl⟩ := HI.out.at j (by rw [Hm.out]; exact hlt)
      subst hae
      have HS := Lib.hid (any_take (fun z : Int => subB z.toNat s) 0 l j (by rw [Hm.out]; exact hlt))
      rw [HF.out, Bool.false_or] at HS
      have HM : Hid (l.getD j 0 ∈ l) := getD_mem _ _ _ (by rw [Hm.out]; exact hlt)
      have hzb := HBd.out _ HM.out
      have jj : (j : Int) < (m : Int) := by omega
      have c1 := (hB.cell (p := ⟨b, off + j, none⟩) hbb).trans hcl
      clear hcl
      generalize l.getD j 0 = z at *
      obtain ⟨x, rfl⟩ := Int.eq_ofNat_of_zero_le hzb.1
      rw [Int.toNat_natCast] at HS
      have Hq : Hid ((fun z : Int => subB z.toNat s) (x : Int) = subB x s) := by show _ = _; simp
      cases hq : subB x s
      · have HQ := Lib.hid hq
        rw [hq] at HS
        clear hq
        go_wp2_with (go_at_call 32; refine (within_any _ _ _ (by omega) (by omega)).mono ?_; rintro e w2 ⟨rfl, rfl⟩; rw [HQ.out])
        go_roundw
        case rel => exact ⟨j + 1, by omega, by go_num, HS.out, hB⟩
        case measure => simp [intOf]; omega
      · have HQ := Lib.hid hq
        clear hq
        go_wp2_with (go_at_call 32; refine (within_any _ _ _ (by omega) (by omega)).mono ?_; rintro e w2 ⟨rfl, rfl⟩; rw [HQ.out])
        go_ret
        exact ⟨ret_bool (any_of_mem (p := fun z : Int => subB z.toNat s) HM.out (by rw [Hq.out, HQ.out])).symm, hB⟩
    · obtain rfl : j = m := by omega
      have HF2 : Hid (hasOne s l = false) := by show _ = _; have := HF.out; rw [List.take_of_length_le (by rw [Hm.out]; exact Nat.le_refl _)] at this; exact this
      clear HF
      go_wp2
      go_ret
      exact ⟨ret_bool HF2.out.symm, hB⟩
end Go.Proofs.YtmihkbiihfhpoaaDoor
