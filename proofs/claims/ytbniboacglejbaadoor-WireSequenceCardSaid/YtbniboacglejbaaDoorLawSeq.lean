/- WireSequence returns true. -/
import Derived.Test.YtbniboacglejbaaDoorSane1
import Derived.Test.YtbniboacglejbaaDoorLawTrunc
import Derived.Deep.RegionHeld3
import Derived.Deep.Light
namespace Go.Proofs.YtbniboacglejbaaDoor
open Go.RowKit Go.Shelf

/-- The length to which a text is cut. -/
def cutN (s : ByteArray) : Nat := min 100 s.size
theorem cutN_eq (s : ByteArray) : (if (100 : Int) < (s.size : Int) then (100 : Int) else (s.size : Int)) = (cutN s : Int) := by unfold cutN; split <;> omega
def txtOf (s : ByteArray) : List UInt8 := s.data.toList.take (cutN s)
theorem txtOf_le (s : ByteArray) : (txtOf s).length ≤ 100 := by unfold txtOf cutN; rw [List.length_take]; omega
theorem txtOf_eq (s : ByteArray) : (s.extract 0 (cutN s)).data.toList = txtOf s := by rw [extract_list]; simp [txtOf]
/-- The encodings of the first k integers and texts. -/
def encTo (zs : Nat → Int) (ss : Nat → ByteArray) : Nat → List UInt8
  | 0 => []
  | k + 1 => encTo zs ss k ++ enc (zz (numF (zs k))) ++ encS (txtOf (ss k))
theorem encS_le (t : List UInt8) : (encS t).length ≤ t.length + 10 := by rw [encS, List.length_append]; have := enc_length (zz t.length); omega
theorem encTo_le (zs : Nat → Int) (ss : Nat → ByteArray) : ∀ k, (encTo zs ss k).length ≤ 120 * k
  | 0 => by simp [encTo]
  | k + 1 => by
    have h1 := encTo_le zs ss k
    have h2 := enc_length (zz (numF (zs k)))
    have h3 := encS_le (txtOf (ss k))
    have h4 := txtOf_le (ss k)
    simp only [encTo, List.length_append]
    omega
theorem encTo_split (zs : Nat → Int) (ss : Nat → ByteArray) (k : Nat) : ∀ n, k < n → ∃ q, encTo zs ss n = encTo zs ss k ++ enc (zz (numF (zs k))) ++ (encS (txtOf (ss k)) ++ q)
  | 0, h => by omega
  | n + 1, h => by
    by_cases e : k = n
    · subst e
      exact ⟨[], by simp [encTo]⟩
    · obtain ⟨q, hq⟩ := encTo_split zs ss k n (by omega)
      exact ⟨q ++ enc (zz (numF (zs n))) ++ encS (txtOf (ss n)), by rw [encTo, hq]; simp⟩
theorem seq_int (zs : Nat → Int) (ss : Nat → ByteArray) {k n : Nat} (h : k < n) :
    intAt (encTo zs ss n) (encTo zs ss k).length = tup3 (numF (zs k)) ((encTo zs ss k).length + (enc (zz (numF (zs k)))).length : Nat) 0 := by
  obtain ⟨q, hq⟩ := encTo_split zs ss k n h
  rw [hq]
  exact intAt_mid _ _ _ (numF_bd _).1 (numF_bd _).2
theorem seq_str (zs : Nat → Int) (ss : Nat → ByteArray) {k n : Nat} (h : k < n) :
    strAt (encTo zs ss n) (((encTo zs ss k).length : Int) + (enc (zz (numF (zs k)))).length) = .tuple #[strV (txtOf (ss k)), .int .i64 ((encTo zs ss (k + 1)).length : Nat), .int .i64 0] := by
  obtain ⟨q, hq⟩ := encTo_split zs ss k n h
  have h2 := txtOf_le (ss k)
  have := strAt_mid (encTo zs ss k ++ enc (zz (numF (zs k)))) q (txtOf (ss k)) (by omega)
  rw [List.length_append, Int.natCast_add] at this
  rw [hq, ← List.append_assoc, this, encTo, List.length_append, List.length_append]
  simp
theorem seq_end (zs : Nat → Int) (ss : Nat → ByteArray) (n : Nat) : intAt (encTo zs ss n) (encTo zs ss n).length = tup3 0 0 10 :=
  intAt_none _ _ (Nat.le_refl _) (by rw [List.drop_length]; rfl)
theorem run_min3 {P : Program} (w : World) (ts : Array TypeId) (t : TypeId) (x y z n : Int) (h : n = min (min x y) z) :
    (Builtin.min_ ts t #[.int .i64 x, .int .i64 y, .int .i64 z]).run P w = .ok (.int .i64 n) w := by
  subst h
  simp [Builtin.min_, Builtin.min2]
  omega

theorem bytes3 (x a b : List UInt8) : (⟨x.toArray⟩ : ByteArray) ++ ⟨a.toArray⟩ ++ ⟨b.toArray⟩ = ⟨(x ++ a ++ b).toArray⟩ := by
  rw [bytes_append x, bytes_append]
set_option maxRecDepth 100000 in
set_option maxHeartbeats 4000000 in
theorem seq_main (b1 o1 n1 c1 b2 o2 n2 c2 : Nat) (zs : Nat → Int) (ss : Nat → ByteArray) (w : World) (hb1 : b1 < w.heap.size) (hb2 : b2 < w.heap.size)
    (hc1 : ∀ i, i < n1 → w.cell? ⟨b1, o1 + i, none⟩ = some (.int .i64 (zs i))) (hzb : ∀ i, i < n1 → -9223372036854775808 ≤ zs i ∧ zs i ≤ 9223372036854775807)
    (hc2 : ∀ i, i < n2 → w.cell? ⟨b2, o2 + i, none⟩ = some (.string (ss i))) (hn1 : n1 ≤ maxLen) (hn2 : n2 ≤ maxLen) (hn : Nibs w) (hz : 0 < w.heap.size) :
    Calls Tryd.prog 6 #[.slice (some ⟨b1, o1, none⟩) n1 c1, .slice (some ⟨b2, o2, none⟩) n2 c2] w fun e w' => e = .returned (.bool true) ∧ Below w.heap.size w w' := by
  have HN := Lib.hid hn
  have H1 := Lib.hid hc1
  have H2 := Lib.hid hc2
  have HZ := Lib.hid hzb
  clear hn hc1 hc2 hzb
  unfold maxLen at hn1 hn2
  obtain ⟨n, hnm⟩ : ∃ n : Nat, (n : Int) = min (min (n1 : Int) n2) 20 := ⟨(min (min (n1 : Int) n2) 20).toNat, by omega⟩
  have h1 : n ≤ n1 := by omega
  have h2 : n ≤ n2 := by omega
  have h3 : n ≤ 20 := by omega
  have hmin : ∀ W : World, (Builtin.min_ #[3, 3, 3] 3 #[.int .i64 n1, .int .i64 n2, .int .i64 20]).run Tryd.prog W = .ok (.int .i64 n) W := fun W => run_min3 W _ _ _ _ _ _ hnm
  clear hnm
  go_enter Tryd.func6, Tryd.ntmps6
  go_wp2_with (go_at_call 10; refine (sane_any _ HN.out hz).mono ?_; rintro e w1 ⟨rfl, hb⟩)
  go_loopw [7, 8] (fun s i wr => ∃ k : Nat, k ≤ n ∧ i = .int .i64 k ∧ s = strV (encTo zs ss k) ∧ Below w.heap.size w wr) (fun _ i _ => n - (intOf i).toNat)
  case atStart => exact ⟨0, by omega, rfl, rfl, hb⟩
  case round =>
    obtain ⟨k, hk, rfl, rfl, hB⟩ := hrel
    have hsz := hB.size
    by_cases hlt : k < n
    · have c1 : wr.cell? ⟨b1, o1 + k, none⟩ = some (.int .i64 (zs k)) := (hB.cell (p := ⟨b1, o1 + k, none⟩) hb1).trans (H1.out k (by omega))
      have hzk := HZ.out k (by omega)
      have hnb := numF_bd (zs k)
      have HI : Hid (putInt (numF (zs k)) = (enc (zz (numF (zs k))), 0)) := putInt_ok _ hnb.1 hnb.2
      have HC := Lib.hid (cutN_eq (ss k))
      have hcn : cutN (ss k) ≤ (ss k).size := by unfold cutN; omega
      have HS : Hid (putStr ((ss k).extract 0 (cutN (ss k))).data.toList = (encS (txtOf (ss k)), 0)) := by
        show _ = _
        rw [txtOf_eq]
        have := txtOf_le (ss k)
        exact putStr_ok _ (by omega)
      have HE : Hid (encTo zs ss (k + 1) = encTo zs ss k ++ enc (zz (numF (zs k))) ++ encS (txtOf (ss k))) := rfl
      have l1 := encTo_le zs ss k
      have l2 := enc_length (zz (numF (zs k)))
      have l3 : (encS (txtOf (ss k))).length ≤ 110 := by have h3 := encS_le (txtOf (ss k)); have h4 := txtOf_le (ss k); omega
      have HK := Lib.hid (H2.out k (by omega))
      generalize hsk : ss k = sk at *
      generalize hzk' : zs k = zk at *
      generalize henc : enc (zz (numF zk)) = a at *
      generalize hencs : encS (txtOf sk) = b at *
      generalize hen : encTo zs ss k = x at *
      clear hsk hzk' henc hencs hen
      go_wp2_with (first | (go_at_call 11; refine (number_any _ _ hzk.1 hzk.2).mono ?_; rintro e w2 ⟨rfl, hb2'⟩) | (go_at_call 12; refine (putInt_any _ _).mono ?_; rintro e w3 ⟨rfl, hb3⟩; rw [HI.out]))
      have z2 := hb2'.size
      have z3 := hb3.size
      have hB3 : Below w.heap.size w w3 := (hB.trans (hb2'.mono hsz)).trans (hb3.mono (by omega))
      have c2k : w3.cell? ⟨b2, o2 + k, none⟩ = some (.string sk) := (hB3.cell (p := ⟨b2, o2 + k, none⟩) hb2).trans HK.out
      have hC := HC.out
      have kk2 : k < n2 := by omega
      have kk3 : (k : Int) < (n2 : Int) := by omega
      go_region_held3 (fun W => W.cell? ⟨b2, o2 + k, none⟩ = some (.string sk) ∧ Below w.heap.size w W) (first | exact ⟨c2k, hB3.drew⟩ | exact ⟨hcc, hBc⟩)
        (first | (go_at_call 19; refine (putString_any _ _ (by rw [ByteArray.size_extract]; unfold maxLen; omega)).mono ?_; rintro e wc ⟨rfl, hbc⟩; rw [HS.out]; have hBc : Below w.heap.size w wc := hB3.drew.trans (hbc.mono (by have := hB3.size; simpa using this)); have hcc : wc.cell? ⟨b2, o2 + k, none⟩ = some (.string sk) := (hBc.cell (p := ⟨b2, o2 + k, none⟩) hb2).trans HK.out))
      all_goals go_wp2
      all_goals exact ⟨⟨k + 1, by omega, by go_num, by rw [HE.out]; exact congrArg Value.string (bytes3 x a b), hBc⟩, by simp [intOf]; omega⟩
    · obtain rfl : k = n := by omega
      have l1 := encTo_le zs ss k
      clear hlt hk hb
      go_wp2
      obtain ⟨wo, rfl⟩ : ∃ wo : World, wo = wr := ⟨_, rfl⟩
      go_loopw [13, 14] (fun at' i wr => ∃ j : Nat, j ≤ k ∧ i = .int .i64 j ∧ at' = .int .i64 ((encTo zs ss j).length : Nat) ∧ Below w.heap.size w wr) (fun _ i _ => k - (intOf i).toNat)
      case atStart => exact ⟨0, by omega, rfl, rfl, hB⟩
      case round =>
        obtain ⟨j, hj, rfl, rfl, hB'⟩ := hrel
        by_cases hlt : j < k
        · have c1 : wr.cell? ⟨b1, o1 + j, none⟩ = some (.int .i64 (zs j)) := (hB'.cell (p := ⟨b1, o1 + j, none⟩) hb1).trans (H1.out j (by omega))
          have c2 : wr.cell? ⟨b2, o2 + j, none⟩ = some (.string (ss j)) := (hB'.cell (p := ⟨b2, o2 + j, none⟩) hb2).trans (H2.out j (by omega))
          have hzk := HZ.out j (by omega)
          have HI := Lib.hid (seq_int zs ss hlt)
          have HS := Lib.hid (seq_str zs ss hlt)
          have HC := Lib.hid (cutN_eq (ss j))
          have hcn : cutN (ss j) ≤ (ss j).size := by unfold cutN; omega
          have HT : Hid ((txtOf (ss j) == ((ss j).extract 0 (cutN (ss j))).toList) = true) := by
            show _ = _
            rw [beq_iff_eq, Lib.toList_data, txtOf_eq]
          have HK1 := Lib.hid (H1.out j (by omega))
          have HK2 := Lib.hid (H2.out j (by omega))
          have l2 := encTo_le zs ss (j + 1)
          have l3 : (encTo zs ss j).length ≤ 120 * j := encTo_le zs ss j
          have l4 := enc_length (zz (numF (zs j)))
          generalize hx : encTo zs ss k = x at *
          generalize hy : encTo zs ss j = y at *
          generalize hy2 : encTo zs ss (j + 1) = y2 at *
          have HY2 := Lib.hid hy2
          generalize hsk : ss j = sk at *
          generalize hzk' : zs j = zk at *
          generalize henc : enc (zz (numF zk)) = a at *
          generalize htx : txtOf sk = tx at *
          clear hx hy hy2 hsk hzk' henc htx
          have zx := size_lit x
          go_wp2_with (first | (go_at_call 15; refine (int_any _ _ _ (by rw [size_lit]; unfold maxLen; omega)).mono ?_; rintro e w' ⟨rfl, rfl⟩; rw [HI.out, tup3]) | (go_at_call 17; refine (string_any _ _ _ (by rw [size_lit]; unfold maxLen; omega)).mono ?_; rintro e w' ⟨rfl, rfl⟩; rw [HS.out]))
          have hC := HC.out
          have hT := HT.out
          have kk1 : j < n1 := by omega
          have kk2 : j < n2 := by omega
          have kk3 : (j : Int) < (n2 : Int) := by omega
          have kk4 : (j : Int) < (n1 : Int) := by omega
          have hsz' := hB'.size
          go_region_held3 (fun W => W.cell? ⟨b1, o1 + j, none⟩ = some (.int .i64 zk) ∧ W.cell? ⟨b2, o2 + j, none⟩ = some (.string sk) ∧ Below w.heap.size w W) (first | exact ⟨c1, c2, hB'.drew⟩ | exact ⟨hc1, hc2, hBc⟩)
            (first | (go_at_call 11; refine (number_any _ _ hzk.1 hzk.2).mono ?_; rintro e wc ⟨rfl, hbc⟩; have hBc : Below w.heap.size w wc := hB'.drew.trans (hbc.mono (by simpa using hsz')); have hc1 : wc.cell? ⟨b1, o1 + j, none⟩ = some (.int .i64 zk) := (hBc.cell (p := ⟨b1, o1 + j, none⟩) hb1).trans HK1.out; have hc2 : wc.cell? ⟨b2, o2 + j, none⟩ = some (.string sk) := (hBc.cell (p := ⟨b2, o2 + j, none⟩) hb2).trans HK2.out))
          all_goals go_wp2
          all_goals exact ⟨⟨j + 1, by omega, by go_num, by rw [HY2.out], hBc⟩, by simp [intOf]; omega⟩
        · obtain rfl : j = k := by omega
          have HE := Lib.hid (seq_end zs ss j)
          generalize hx : encTo zs ss j = x at *
          clear hx
          go_wp2_with (go_at_call 15; refine (int_any _ _ _ (by rw [size_lit]; unfold maxLen; omega)).mono ?_; rintro e w' ⟨rfl, rfl⟩; rw [HE.out, tup3])
          go_ret
          exact ⟨ret_bool (by simp), hB'⟩

set_option maxRecDepth 100000 in
set_option maxHeartbeats 4000000 in
theorem seq_none (a1 a2 : Option Addr) (n1 c1 n2 c2 : Nat) (w : World) (hn0 : n1 = 0 ∨ n2 = 0) (hn1 : n1 ≤ maxLen) (hn2 : n2 ≤ maxLen) (hn : Nibs w) (hz : 0 < w.heap.size) :
    Calls Tryd.prog 6 #[.slice a1 n1 c1, .slice a2 n2 c2] w fun e w' => e = .returned (.bool true) ∧ Below w.heap.size w w' := by
  have HN := Lib.hid hn
  clear hn
  unfold maxLen at hn1 hn2
  have hmin : ∀ W : World, (Builtin.min_ #[3, 3, 3] 3 #[.int .i64 n1, .int .i64 n2, .int .i64 20]).run Tryd.prog W = .ok (.int .i64 0) W := fun W => run_min3 W _ _ _ _ _ _ (by omega)
  have HE : Hid (intAt [] 0 = tup3 0 0 10) := rfl
  clear hn0
  go_enter Tryd.func6, Tryd.ntmps6
  go_wp2_with (go_at_call 10; refine (sane_any _ HN.out hz).mono ?_; rintro e w1 ⟨rfl, hb⟩)
  go_loopw [7, 8] (fun s i wr => s = strV [] ∧ i = .int .i64 0 ∧ Below w.heap.size w wr) (fun _ _ _ => 0)
  case atStart => exact ⟨rfl, rfl, hb⟩
  case round =>
    obtain ⟨rfl, rfl, hB⟩ := hrel
    go_wp2
    obtain ⟨wo, rfl⟩ : ∃ wo : World, wo = wr := ⟨_, rfl⟩
    go_loopw [13, 14] (fun a i wr => a = .int .i64 0 ∧ i = .int .i64 0 ∧ Below w.heap.size w wr) (fun _ _ _ => 0)
    case atStart => exact ⟨rfl, rfl, hB⟩
    case round =>
      obtain ⟨rfl, rfl, hB'⟩ := hrel
      go_wp2_with (go_at_call 15; refine (int_any _ _ _ (by decide)).mono ?_; rintro e w' ⟨rfl, rfl⟩; rw [show intAt _ _ = _ from HE.out, tup3])
      go_ret
      exact ⟨ret_bool (by simp), hB'⟩

theorem seq_any (a1 a2 : Option Addr) (n1 c1 n2 c2 : Nat) (zs : Nat → Int) (ss : Nat → ByteArray) (w : World) (hn1 : n1 ≤ maxLen) (hn2 : n2 ≤ maxLen)
    (h1 : 0 < n1 → ∃ b off, a1 = some ⟨b, off, none⟩ ∧ b < w.heap.size ∧ ∀ i, i < n1 → w.cell? ⟨b, off + i, none⟩ = some (.int .i64 (zs i))) (hzb : ∀ i, i < n1 → -9223372036854775808 ≤ zs i ∧ zs i ≤ 9223372036854775807)
    (h2 : 0 < n2 → ∃ b off, a2 = some ⟨b, off, none⟩ ∧ b < w.heap.size ∧ ∀ i, i < n2 → w.cell? ⟨b, off + i, none⟩ = some (.string (ss i))) (hn : Nibs w) (hz : 0 < w.heap.size) :
    Calls Tryd.prog 6 #[.slice a1 n1 c1, .slice a2 n2 c2] w fun e w' => e = .returned (.bool true) ∧ Below w.heap.size w w' := by
  by_cases h0 : n1 = 0 ∨ n2 = 0
  · exact seq_none a1 a2 n1 c1 n2 c2 w h0 hn1 hn2 hn hz
  · obtain ⟨b1, o1, rfl, l1, k1⟩ := h1 (by omega)
    obtain ⟨b2, o2, rfl, l2, k2⟩ := h2 (by omega)
    exact seq_main b1 o1 n1 c1 b2 o2 n2 c2 zs ss w l1 l2 k1 hzb k2 hn1 hn2 hn hz
end Go.Proofs.YtbniboacglejbaaDoor
