import Derived.Test.YteicimmdcdjagaaGreatDoorVSeal
import Derived.Test.YteicimmdcdjagaaGreatDoorVColl
set_option linter.unusedVariables false
set_option linter.unusedSimpArgs false

/- view.seals, view.Root. -/
set_option linter.unusedVariables false
set_option linter.unusedSimpArgs false
namespace Go.Proofs.YteicimmdcdjagaaGreatDoor
open Go.RowKit Go.Shelf

/-- The cells of strings. -/
def arrC (ls : List Bytes) : Array Value := (ls.map fun b => Value.string (bs b)).toArray
theorem arrC_size (ls : List Bytes) : (arrC ls).size = ls.length := by simp [arrC]
theorem arrC_one (ls : List Bytes) : (arrC ls).all (·.oneCell') = true := by
  rw [Array.all_eq_true]
  intro i hi
  simp [arrC, Value.oneCell']
theorem arrC_set (ls : List Bytes) (k : Nat) (b : Bytes) : (arrC ls).setIfInBounds k (.string (bs b)) = arrC (ls.set k b) := by simp [arrC, List.map_set]
theorem arrC_get (ls : List Bytes) (k : Nat) (h : k < ls.length) : (arrC ls)[k]? = some (.string (bs (ls.getD k []))) := by
  simp [arrC, List.getD_eq_getElem?_getD, List.getElem?_eq_getElem h]
theorem heap_setCells {g : Nat} {t : TypeId} : ∀ (vs pre old : List Value) (W : World), W.heap[g]? = some (.cells (pre ++ old).toArray t (0, 0)) → vs.length = old.length → (W.setCells g pre.length vs).heap[g]? = some (.cells (pre ++ vs).toArray t (0, 0))
  | [], pre, old, W, h, hl => by
    obtain rfl : old = [] := List.eq_nil_of_length_eq_zero hl.symm
    exact h
  | v :: r, pre, [], W, h, hl => by simp at hl
  | v :: r, pre, o :: old, W, h, hl => by
    have h1 := heap_setCell_same W g pre.length _ t v h
    have e : (pre ++ o :: old).toArray.setIfInBounds pre.length v = ((pre ++ [v]) ++ old).toArray := by simp
    rw [e] at h1
    have h2 := heap_setCells r (pre ++ [v]) old _ h1 (by simpa using hl)
    rw [List.length_append, List.length_singleton, List.append_assoc] at h2
    exact h2
/-- A block that holds an array of strings. -/
def ArrN (g : Nat) (ls : List Bytes) (W : World) : Prop := BoxN g 74 (arrC ls) W
theorem ArrN.set {g : Nat} {ls : List Bytes} {W : World} (h : ArrN g ls W) (k : Nat) (b : Bytes) : ArrN g (ls.set k b) (W.setCell ⟨g, k, none⟩ (.string (bs b))) := by
  have := heap_setCell_same W g k _ _ (.string (bs b)) (show W.heap[g]? = _ from h)
  rw [arrC_set] at this
  exact this
theorem ArrN.setAll {g : Nat} {ls l2 : List Bytes} {W : World} (h : ArrN g ls W) (hl : l2.length = ls.length) : ArrN g l2 (W.setCells g 0 (arrC l2).toList) := by
  have := heap_setCells (g := g) (t := 74) (arrC l2).toList [] (arrC ls).toList W (by
    have h' : W.heap[g]? = some (.cells (arrC ls) 74 (0, 0)) := h
    simpa using h') (by simp [arrC, hl])
  show (W.setCells g 0 (arrC l2).toList).heap[g]? = some (.cells (arrC l2) 74 (0, 0))
  simpa using this
theorem BoxN.alloc {g : Nat} {t : TypeId} {cs : Array Value} {W : World} (h : BoxN g t cs W) (o : Obj) : BoxN g t cs (W.alloc o) := (Below.heap_alloc _ _ _ h.lt).trans h
theorem BoxN.grown {g : Nat} {t : TypeId} {cs : Array Value} {W W' : World} {r : Option Nat} (h : BoxN g t cs W) (hg : W.grownBy W' r) (hr : r ≠ some g) : BoxN g t cs W' := (hg.block g h.lt (fun e => hr e.symm)).trans h
theorem BoxN.below {g : Nat} {t : TypeId} {cs : Array Value} {W W' : World} {B : Nat} (h : BoxN g t cs W) (hb : Below B W W') (hB : g < B) : BoxN g t cs W' := (hb.block g hB).trans h
theorem BoxN.other {g g' j : Nat} {t : TypeId} {cs : Array Value} {W : World} {v : Value} (h : BoxN g t cs W) (hne : g ≠ g') : BoxN g t cs (W.setCell ⟨g', j, none⟩ v) := (heap_setCell_other W _ g v hne).trans h
/-- The seals that have been written. -/
def sealTo (d : VDos) (k : Nat) : List Bytes := (List.range 100).map fun (i : Nat) => if i < k then sealB (saltB d.key i) (ofL d i) else []
theorem sealTo_length (d : VDos) (k : Nat) : (sealTo d k).length = 100 := by simp [sealTo]
theorem sealTo_zero (d : VDos) : sealTo d 0 = List.replicate 100 [] := by
  unfold sealTo
  rw [List.map_congr_left (g := fun _ => ([] : Bytes)) (fun i _ => if_neg (Nat.not_lt_zero i)), List.map_const', List.length_range]
theorem sealTo_set (d : VDos) (k : Nat) (hk : k < 100) : (sealTo d k).set k (sealB (saltB d.key k) (ofL d k)) = sealTo d (k + 1) := by
  apply List.ext_getElem?
  intro i
  rw [List.getElem?_set]
  unfold sealTo
  by_cases hik : k = i
  · subst hik
    simp [hk]
  · by_cases hi : i < 100
    · have : (i < k + 1) ↔ (i < k) := by omega
      simp [hik, hi, this]
    · simp [hik, hi]
theorem sealTo_all (d : VDos) : sealTo d 100 = sealsL d := by
  unfold sealTo sealsL
  apply List.map_congr_left
  intro i hi
  rw [if_pos (List.mem_range.1 hi)]
/-- Between two rounds of seals. -/
def SealR (D : Nat) (key : List UInt8) (nv : Value) (l : List VNote) (w : World) (k : Nat) (W : World) : Prop :=
  Below w.heap.size w W ∧ DosN D key nv W ∧ ArrN (D + 1) (List.replicate 100 []) W ∧ ArrN (D + 2) (sealTo ⟨key, l⟩ k) W
theorem seal_start (w : World) (key : List UInt8) (a : Option Addr) (n c : Nat) (l : List VNote) : SealR w.heap.size key (.slice a n c) l w 0 (((w.alloc (.cells #[.string (bs key), .slice a n c] 26)).alloc (.cells (arrC (List.replicate 100 [])) 74)).alloc (.cells (arrC (List.replicate 100 [])) 74)) := by
  have h1 := box_new w 26 #[.string (bs key), .slice a n c]
  have h2 := box_new (w.alloc (.cells #[.string (bs key), .slice a n c] 26)) 74 (arrC (List.replicate 100 []))
  have h3 := box_new ((w.alloc (.cells #[.string (bs key), .slice a n c] 26)).alloc (.cells (arrC (List.replicate 100 [])) 74)) 74 (arrC (List.replicate 100 []))
  rw [World.size_alloc] at h2 h3
  rw [World.size_alloc] at h3
  refine ⟨(((Below.refl _ _).alloc (Nat.le_refl _) _).alloc (by simp) _).alloc (by simp; omega) _, (h1.alloc _).alloc _, h2.alloc _, ?_⟩
  rw [sealTo_zero]
  exact h3
/-- What the steps of the region leave. -/
def SealF (B : Nat) (key : List UInt8) (nv : Value) (l : List VNote) (id : Int) (S Z : Bytes) : Nat → Value → World → Prop := fun k v W =>
  if k = 4 then v = .string (bs S)
  else if k = 7 then ∃ b, v = .func (.func 100) #[] #[.pointer (some ⟨b, 0, none⟩), .pointer (some ⟨b + 1, 0, none⟩)] ∧ DosN b key nv W ∧ Boxed W (b + 1) 3 (.int .i64 id)
  else if k = 8 then OwnK noteK B W v (ofN l id)
  else v = .string (bs Z)
theorem sealF_kept {B k : Nat} {key : List UInt8} {nv : Value} {l : List VNote} {id : Int} {S Z : Bytes} {v : Value} {W W' : World} (h : SealF B key nv l id S Z k v W) (hg : W.grownBy W' none) : SealF B key nv l id S Z k v W' := by
  unfold SealF at h ⊢
  by_cases h4 : k = 4
  · rw [if_pos h4] at h ⊢; exact h
  rw [if_neg h4] at h ⊢
  by_cases h7 : k = 7
  · rw [if_pos h7] at h ⊢
    obtain ⟨b, h1, h2, h3⟩ := h
    exact ⟨b, h1, BoxN.grown h2 hg (by simp), h3.kept hg (by simp)⟩
  rw [if_neg h7] at h ⊢
  by_cases h8 : k = 8
  · rw [if_pos h8] at h ⊢; exact OwnK.kept h hg (fun g h => by cases h)
  rw [if_neg h8] at h ⊢
  exact h
set_option maxRecDepth 100000 in
set_option maxHeartbeats 4000000 in
theorem seals_any (key : List UInt8) (nv : Value) (l : List VNote) (w : World) (h : RowsAt noteK w.heap.size w nv l) (hz : ∀ n ∈ l, NoteZ n) (hl : l.length ≤ 1000) (hk : key.length ≤ 1000000) (hT : Rounds w) :
    Calls Tryz.prog 37 #[dosV key nv] w fun e w' => e = .returned (.agg (arrC (sealsL ⟨key, l⟩))) ∧ Below w.heap.size w w' := by
  obtain ⟨a, c, rfl, hlc, hcm⟩ := h.shape
  have HL := Lib.hid h
  have HT := Lib.hid hT
  have HZ := Lib.hid hz
  have HLl := Lib.hid hl
  clear h hT hz hl hlc hcm
  generalize hn : l.length = n at *
  have HN := Lib.hid hn
  clear hn
  go_enter Tryz.func37, Tryz.ntmps37
  go_wp2
  refine wp_gen (fun W' => SealR w.heap.size key (.slice a n c) l w 0 W') (seal_start w key a n c l) ?_
  intro W0 hR0
  have HR0 := Lib.hid hR0
  clear hR0
  go_loopw [5] (fun i wr => ∃ k : Nat, k ≤ 100 ∧ i = .int .i64 k ∧ Hid (SealR w.heap.size key (.slice a n c) l w k wr)) (fun i _ => 100 - (intOf i).toNat)
  case atStart => exact ⟨0, Nat.zero_le _, rfl, HR0⟩
  case round =>
    clear HR0
    obtain ⟨k, hk1, rfl, HR⟩ := hrel
    by_cases h1 : k < 100
    · have ji : (k : Int) < 100 := by omega
      have j0 : 0 ≤ (k : Int) := by omega
      obtain ⟨S, hS⟩ : ∃ S, S = saltB key k := ⟨_, rfl⟩
      obtain ⟨Z, hZ⟩ : ∃ Z, Z = sealB S (ofN l k) := ⟨_, rfl⟩
      have hSl : S.length = 32 := by rw [hS]; exact nodeB_length _ _
      have HS := Lib.hid hS
      have HZq := Lib.hid hZ
      have HSl := Lib.hid hSl
      have HQ : Hid (∀ W, wr.grownBy W none → W.cell? ⟨w.heap.size, 0, none⟩ = some (.string (bs key)) ∧ W.cell? ⟨w.heap.size, 1, none⟩ = some (.slice a n c)) := fun W hW =>
        have hd := BoxN.grown HR.out.2.1 hW (by simp)
        ⟨DosN.c0 hd, DosN.c1 hd⟩
      have HB : Hid (∀ W, wr.grownBy W none → Below w.heap.size w W) := fun W hW => HR.out.1.trans ((grown_below hW).mono HR.out.1.size)
      clear hS hZ hSl
      go_wp2
      refine wp_region_calm ⟨[4, 7, 8, 9], SealF wr.heap.size key (.slice a n c) l k S Z, fun _ => [], 99, none, 11⟩ (by kernel_rfl) (by kernel_rfl) (by kernel_rfl) (fun g h => by cases h) (fun k hk v W W' c h hg hc => ?_) ?_
      · cases c with
        | none => exact sealF_kept h hg
        | some g => obtain ⟨_, _, i, j, u, hd, _⟩ := hc g rfl; simp at hd
      iterate 4 (refine calm_quiet (v := ?_) (by rfl) (by rfl) (fun W hW hD => ?_) ?_; rotate_left; (· (obtain ⟨z0, z1⟩ := HQ.out W hW; clear hD hW; go_simp; try with_reducible rfl)); simp only [Act.put, List.setIfInBounds_toArray, List.set_cons_zero, List.set_cons_succ, Nat.reduceAdd, Nat.zero_add])
      refine calm_makes (by rfl) (by rfl) (fun W hW hD Kc hK => ?_) (fun v12 => ?_)
      · refine wp_of_call (f := 40) (args := #[.string (bs key), .int .i64 k]) ?_ ((salt_any key k W (by unfold EncZ; omega) hk (HT.out.below (HB.out W hW) (Nat.le_refl _))).mono ?_)
        · clear hD hW hK
          go_simp
        · rintro e w5 ⟨rfl, hb5⟩
          exact ⟨_, rfl, hK _ _ (made_plain (by show _ = _; rw [HS.out]; rfl) hb5 rfl)⟩
      simp only [Act.put, List.setIfInBounds_toArray, List.set_cons_zero, List.set_cons_succ, Nat.reduceAdd, Nat.zero_add]
      iterate 2 (refine calm_quiet (v := ?_) (by rfl) (by rfl) (fun W hW hD => ?_) ?_; rotate_left; (· (obtain ⟨z0, z1⟩ := HQ.out W hW; clear hD hW; go_simp; try with_reducible rfl)); simp only [Act.put, List.setIfInBounds_toArray, List.set_cons_zero, List.set_cons_succ, Nat.reduceAdd, Nat.zero_add])
      refine calm_makes (by rfl) (by rfl) (fun W hW hD Kc hK => ?_) (fun v15 => ?_)
      · refine wp_of_call (f := 68) (args := #[dosV key (.slice a n c), .int .i64 k]) ?_ ((of_any key (.slice a n c) ⟨_, _, _, rfl⟩ k W).mono ?_)
        · clear hD hW hK
          go_simp
        · rintro e w5 ⟨rfl, rfl⟩
          refine ⟨_, rfl, hK _ _ (made_plain ⟨W.heap.size, rfl, BoxN.alloc (box_new W _ _) _, ?_⟩ (((Below.refl _ _).alloc (Nat.le_refl _) _).alloc (by simp) _) rfl)⟩
          have := Boxed.new (W.alloc (.cells #[.string (bs key), .slice a n c] 26)) 3 (.int .i64 k)
          rwa [World.size_alloc] at this
      simp only [Act.put, List.setIfInBounds_toArray, List.set_cons_zero, List.set_cons_succ, Nat.reduceAdd, Nat.zero_add]
      refine calm_makes (by rfl) (by rfl) (fun W hW hD Kc hK => ?_) (fun v16 => ?_)
      · obtain ⟨b, rfl, hd, hi⟩ : ∃ b, v15 = .func (.func 100) #[] #[.pointer (some ⟨b, 0, none⟩), .pointer (some ⟨b + 1, 0, none⟩)] ∧ DosN b key (.slice a n c) W ∧ Boxed W (b + 1) 3 (.int .i64 k) := hD [] 7 (by kernel_rfl) (by kernel_rfl) (by kernel_rfl)
        refine wp_of_call (f := 67) (args := #[.func (.func 100) #[] #[.pointer (some ⟨b, 0, none⟩), .pointer (some ⟨b + 1, 0, none⟩)]]) ?_ ((coll_any b (b + 1) key (.slice a n c) l k W hd hi (HL.out.later (HB.out W hW) (Nat.le_refl _)) (by rw [HN.out]; have := HLl.out; omega)).mono ?_)
        · clear hD hW hK hd hi
          go_simp
        · rintro e w5 ⟨v, rfl, hown, hb5⟩
          have hz := hW.size
          exact ⟨_, rfl, hK _ _ (made_below (hown.mono hz) hb5 (World.ownsRow.lt hown))⟩
      simp only [Act.put, List.setIfInBounds_toArray, List.set_cons_zero, List.set_cons_succ, Nat.reduceAdd, Nat.zero_add]
      refine calm_makes (by rfl) (by rfl) (fun W hW hD Kc hK => ?_) (fun v17 => ?_)
      · obtain rfl : v12 = .string (bs S) := hD [] 4 (by kernel_rfl) (by kernel_rfl) (by kernel_rfl)
        have hown : OwnK noteK wr.heap.size W v16 (ofN l k) := hD [] 8 (by kernel_rfl) (by kernel_rfl) (by kernel_rfl)
        have hll := ofN_length l k
        refine wp_of_call (f := 53) (args := #[.string (bs S), v16]) ?_ ((seal_any S v16 (ofN l k) W (hown.rows noteOk) (fun n hn => HZ.out n ((List.mem_filter.1 hn).1)) (by rw [HN.out] at hll; have := HLl.out; omega) (by rw [HSl.out]; omega) (HT.out.below (HB.out W hW) (Nat.le_refl _))).mono ?_)
        · clear hD hW hK hown hll
          go_simp
        · rintro e w5 ⟨rfl, hb5⟩
          exact ⟨_, rfl, hK _ _ (made_plain (by show _ = _; rw [HZq.out]; rfl) hb5 rfl)⟩
      simp only [Act.put, List.setIfInBounds_toArray, List.set_cons_zero, List.set_cons_succ, Nat.reduceAdd, Nat.zero_add]
      iterate 1 (refine calm_quiet (v := ?_) (by rfl) (by rfl) (fun W hW hD => ?_) ?_; rotate_left; (· (obtain ⟨z0, z1⟩ := HQ.out W hW; clear hD hW; go_simp; try with_reducible rfl)); simp only [Act.put, List.setIfInBounds_toArray, List.set_cons_zero, List.set_cons_succ, Nat.reduceAdd, Nat.zero_add])
      refine calm_tail (by rfl) fun W hW hF => ?_
      obtain rfl : v17 = .string (bs Z) := hF 9 (by kernel_rfl) (by kernel_rfl)
      have ha := BoxN.grown HR.out.2.2.2 hW (by simp)
      have q0 : W.cell? ⟨w.heap.size + 2, k, none⟩ = some (.string (bs ((sealTo ⟨key, l⟩ k).getD k []))) := BoxN.cell ha k _ (arrC_get _ _ (by rw [sealTo_length]; exact h1))
      have qf := BoxN.frozen ha k
      have HA2 : Hid (ArrN (w.heap.size + 2) (sealTo ⟨key, l⟩ (k + 1)) (W.setCell ⟨w.heap.size + 2, k, none⟩ (.string (bs Z)))) := by
        have := ArrN.set ha k Z
        rw [HZq.out, HS.out] at this
        rw [HZq.out, HS.out]
        have e := sealTo_set ⟨key, l⟩ k h1
        show ArrN _ _ _
        rw [← e]
        exact this
      have HR2 : Hid (Below w.heap.size w (W.setCell ⟨w.heap.size + 2, k, none⟩ (.string (bs Z))) ∧ DosN w.heap.size key (.slice a n c) (W.setCell ⟨w.heap.size + 2, k, none⟩ (.string (bs Z))) ∧ ArrN (w.heap.size + 1) (List.replicate 100 []) (W.setCell ⟨w.heap.size + 2, k, none⟩ (.string (bs Z)))) :=
        ⟨(HB.out W hW).setCell (by simp) _, BoxN.other (BoxN.grown HR.out.2.1 hW (by simp)) (by simp), BoxN.other (BoxN.grown HR.out.2.2.1 hW (by simp)) (by simp)⟩
      clear hF hW ha
      go_wp2
      go_roundw
      case rel => exact ⟨k + 1, by omega, by go_num, ⟨HR2.out.1, HR2.out.2.1, HR2.out.2.2, HA2.out⟩⟩
      case measure => simp [intOf]; omega
    · obtain rfl : k = 100 := by omega
      obtain ⟨hb, hd, ha1, ha2⟩ := HR.out
      rw [sealTo_all] at ha2
      obtain ⟨cs, hcs⟩ : ∃ cs, cs = arrC (sealsL ⟨key, l⟩) := ⟨_, rfl⟩
      have HSz : Hid ((Tryz.prog.info? 74).map (·.size) = some cs.size) := by show _ = _; rw [hcs, arrC_size, sealsL_length]; kernel_rfl
      have HU : Hid (wr.heap[w.heap.size + 2]? = some (.cells cs 74 (0, 0))) := by show _ = _; rw [hcs]; exact ha2
      have HTh : Hid (wr.there (w.heap.size + 1) 0 cs.size) := by
        show wr.there _ _ _
        intro j hj
        rw [Nat.zero_add]
        have hj2 : j < 100 := by rw [hcs, arrC_size, sealsL_length] at hj; exact hj
        exact ⟨by rw [BoxN.cell ha1 j _ (arrC_get _ _ (by simpa using hj2))]; rfl, BoxN.frozen ha1 j⟩
      have HOne : Hid (cs.all (·.oneCell') = true) := by show _ = _; rw [hcs]; exact arrC_one _
      have HU2 : Hid ((wr.setCells (w.heap.size + 1) 0 cs.toList).heap[w.heap.size + 1]? = some (.cells cs 74 (0, 0))) := by
        show _ = _
        rw [hcs]
        exact ArrN.setAll ha1 (by rw [sealsL_length]; simp)
      have HBf := Lib.hid (below_setCells cs.toList 0 hb (Nat.le_succ w.heap.size))
      have HCs := Lib.hid hcs
      clear hb hd ha1 ha2 hcs HR h1 hk1
      go_wp2_with (first | ((with_reducible refine wpList_load_row ?_ 74 (.tmp 3) ?_ (w.heap.size + 2) ?_ 74 cs (0, 0) _ HU.out Tryz.underlying74 ?_ HSz.out ?_); exact rfl; exact rfl; exact rfl; exact rfl) | ((with_reducible refine wpList_store_mid ?_ 74 (.tmp 2) (.tmp 20) ?_ (w.heap.size + 1) 0 cs ?_ ?_ HTh.out HSz.out HOne.out ?_); exact rfl; exact rfl; exact rfl; exact rfl))
      refine bodyPost_ret (v := .agg cs) (results_cell_row rfl _ _ (w.heap.size + 1) 74 cs (0, 0) _ rfl HU2.out Tryz.underlying74 rfl HSz.out) rfl ⟨?_, HBf.out⟩
      rw [HCs.out]
end Go.Proofs.YteicimmdcdjagaaGreatDoor
