import Derived.Test.YteicimmdcdjagaaGreatDoorVIdx
set_option linter.unusedVariables false
set_option linter.unusedSimpArgs false

/- view: Check. -/
set_option linter.unusedVariables false
set_option linter.unusedSimpArgs false
namespace Go.Proofs.YteicimmdcdjagaaGreatDoor
open Go.RowKit Go.Shelf

/-- What Check answers. -/
def checkB (root : Bytes) (p : VPage) : Bool := inZ p.unit 0 99 && (notesB p.notes && (!(p.notes.any fun n => n.unit != p.unit) && (decide (p.salt.length = 32) && verB root 100 p.unit (sealB p.salt p.notes) p.proof)))
set_option maxRecDepth 100000 in
theorem other_any (x : VNote) (b : Nat) (u : Int) (nv pv : Value) (s : List UInt8) (w : World) (h : BoxN b 39 #[.int .i64 u, nv, .string (bs s), pv] w) :
    Calls Tryz.prog 49 #[noteV x, .pointer (some ⟨b, 0, none⟩)] w fun e w' => e = .returned (.bool (x.unit != u)) ∧ Below w.heap.size w w' := by
  have c0 := BoxN.cell (h.alloc (.cells (noteR x) 48)) 0 _ rfl
  have HB : Hid (∀ o : Obj, Below w.heap.size w (w.alloc o)) := fun o => (Below.refl _ _).alloc (Nat.le_refl _) o
  clear h
  go_enter Tryz.func49, Tryz.ntmps49
  go_wp2
  go_ret
  exact ⟨rfl, HB.out _⟩
set_option maxRecDepth 100000 in
set_option maxHeartbeats 4000000 in
theorem check_any (root : Bytes) (u : Int) (nv : Value) (l : List VNote) (s : List UInt8) (pv : Value) (ps : List Bytes) (w : World) (h : RowsAt noteK w.heap.size w nv l) (hl : l.length ≤ 1000000) (hp : StrsAt w.heap.size w pv ps) (hps : ps.length ≤ 1000000) (hT : Rounds w) :
    Calls Tryz.prog 20 #[.string (bs root), pageV u nv s pv] w fun e w' => e = .returned (.bool (checkB root ⟨u, l, s, ps⟩)) ∧ Below w.heap.size w w' := by
  obtain ⟨na, nc, rfl, hlc, hcm⟩ := h.shape
  obtain ⟨pa, pc, rfl, hpc1, hpc2⟩ := hp.shape
  have HE : Hid (checkB root ⟨u, l, s, ps⟩ = (inZ u 0 99 && (notesB l && (!(l.any fun n => n.unit != u) && (decide (s.length = 32) && verB root 100 u (sealB s l) ps))))) := rfl
  have hb0 : Below w.heap.size w (w.alloc (.cells #[.int .i64 u, .slice na l.length nc, .string (bs s), .slice pa ps.length pc] 39)) := (Below.refl _ _).alloc (Nat.le_refl _) _
  have HB0 := Lib.hid hb0
  have HL := Lib.hid h
  have HP := Lib.hid hp
  have HT := Lib.hid hT
  have HLl := Lib.hid hl
  have HPl := Lib.hid hps
  have hx := box_new w 39 #[.int .i64 u, .slice na l.length nc, .string (bs s), .slice pa ps.length pc]
  have HBox := Lib.hid hx
  have c0 := BoxN.cell hx 0 _ rfl
  have c1 := BoxN.cell hx 1 _ rfl
  have c2 := BoxN.cell hx 2 _ rfl
  clear h hp hT hl hps hlc hcm hpc1 hpc2 hb0 hx
  generalize hn : l.length = n at *
  have HN := Lib.hid hn
  clear hn
  generalize hpn : ps.length = pn at *
  have HPn := Lib.hid hpn
  clear hpn
  cases hu : inZ u 0 99
  · have HU := Lib.hid (fun W => visIn_eq hu W)
    have HF : Hid (checkB root ⟨u, l, s, ps⟩ = false) := by show _ = _; rw [HE.out, hu]; rfl
    clear hu HE
    go_enter Tryz.func20, Tryz.ntmps20
    go_wp2_with fail
    refine (HU.out _).mono ?_
    rintro e w1 ⟨rfl, rfl⟩
    go_wp2
    go_ret
    exact ⟨by rw [HF.out]; try rfl, HB0.out⟩
  have HU := Lib.hid (fun W => visIn_eq hu W)
  have HE2 : Hid (checkB root ⟨u, l, s, ps⟩ = (notesB l && (!(l.any fun n => n.unit != u) && (decide (s.length = 32) && verB root 100 u (sealB s l) ps)))) := by show _ = _; rw [HE.out, hu]; rfl
  have HId : Hid (0 ≤ u ∧ u < 100) := by
    have := hu
    unfold inZ at this
    simp at this
    exact ⟨by omega, by omega⟩
  clear hu HE
  have HNt := Lib.hid (areNotes_any (.slice na n nc) l _ (HL.out.later HB0.out (Nat.le_refl _)) (by rw [HN.out]; exact HLl.out))
  go_enter Tryz.func20, Tryz.ntmps20
  go_wp2_with fail
  refine (HU.out _).mono ?_
  rintro e w1 ⟨rfl, rfl⟩
  go_wp2_with fail
  clear c0 c1 c2
  obtain ⟨W0, hW0⟩ : ∃ W0, W0 = w.alloc (.cells #[.int .i64 u, .slice na n nc, .string (bs s), .slice pa pn pc] 39) := ⟨_, rfl⟩
  rw [← hW0] at HB0 HNt HBox ⊢
  clear hW0
  refine HNt.out.mono ?_
  rintro e w2 ⟨rfl, hb⟩
  have HX2 := Lib.hid (BoxN.below HBox.out hb HBox.out.lt)
  have HB2 := Lib.hid (HB0.out.trans (hb.mono HB0.out.size))
  clear hb HNt HBox HB0
  have c1 := BoxN.cell HX2.out 1 _ rfl
  have c2 := BoxN.cell HX2.out 2 _ rfl
  cases hn : notesB l
  · have HF : Hid (checkB root ⟨u, l, s, ps⟩ = false) := by show _ = _; rw [HE2.out, hn]; rfl
    clear hn HE2
    go_wp2
    go_ret
    exact ⟨by rw [HF.out]; try rfl, HB2.out⟩
  have HE3 : Hid (checkB root ⟨u, l, s, ps⟩ = (!(l.any fun n => n.unit != u) && (decide (s.length = 32) && verB root 100 u (sealB s l) ps))) := by show _ = _; rw [HE2.out, hn]; rfl
  have HZ : Hid ((∀ x ∈ l, NoteZ x) ∧ l.length ≤ 60) := ⟨fun x hx => (noteB_z ((notesB_ok hn).1 x hx)).1, (notesB_ok hn).2.2⟩
  have HA := Lib.hid (has_note 49 #[.pointer (some ⟨w.heap.size, 0, none⟩)] (enters_of Tryz.func49 (by kernel_rfl) rfl) (.slice na n nc) l w2 (fun x => x.unit != u) (HL.out.later HB2.out (Nat.le_refl _)) (by rw [HN.out]; exact HLl.out) (fun W x hb => other_any x _ u _ _ s W (BoxN.below HX2.out hb HX2.out.lt)))
  clear hn HE2
  go_wp2_with fail
  clear c1 c2
  refine HA.out.mono ?_
  rintro e w3 ⟨rfl, hb⟩
  have HX3 := Lib.hid (BoxN.below HX2.out hb HX2.out.lt)
  have HB3 := Lib.hid (HB2.out.trans (hb.mono HB2.out.size))
  clear hb HA HX2 HB2
  have c2 := BoxN.cell HX3.out 2 _ rfl
  cases ha : l.any fun x => x.unit != u
  rotate_left
  · have HF : Hid (checkB root ⟨u, l, s, ps⟩ = false) := by show _ = _; rw [HE3.out, ha]; rfl
    clear ha HE3
    go_wp2
    go_ret
    exact ⟨by rw [HF.out]; try rfl, HB3.out⟩
  have HE4 : Hid (checkB root ⟨u, l, s, ps⟩ = (decide (s.length = 32) && verB root 100 u (sealB s l) ps)) := by show _ = _; rw [HE3.out, ha]; rfl
  clear ha HE3
  by_cases hs : s.length = 32
  rotate_left
  · have HF : Hid (checkB root ⟨u, l, s, ps⟩ = false) := by show _ = _; rw [HE4.out, decide_eq_false hs]; rfl
    have d := vsize32_t hs
    clear hs HE4
    go_wp2
    go_ret
    exact ⟨by rw [HF.out]; try rfl, HB3.out⟩
  have HF : Hid (checkB root ⟨u, l, s, ps⟩ = verB root 100 u (sealB s l) ps) := by show _ = _; rw [HE4.out, decide_eq_true hs]; rfl
  have d := vsize32_f hs
  have HSl := Lib.hid hs
  clear hs HE4
  obtain ⟨Z, hZ⟩ : ∃ Z, Z = sealB s l := ⟨_, rfl⟩
  have HZs := Lib.hid hZ
  have HZl : Hid (Z.length = 32) := by show _ = _; rw [hZ]; exact nodeB_length _ _
  clear hZ
  obtain ⟨r, hr⟩ : ∃ r, r = verB root 100 u Z ps := ⟨_, rfl⟩
  have HR := Lib.hid hr
  clear hr
  have HQ : Hid (∀ W, w3.grownBy W none → W.cell? ⟨w.heap.size, 0, none⟩ = some (.int .i64 u) ∧ W.cell? ⟨w.heap.size, 1, none⟩ = some (.slice na n nc) ∧ W.cell? ⟨w.heap.size, 2, none⟩ = some (.string (bs s)) ∧ W.cell? ⟨w.heap.size, 3, none⟩ = some (.slice pa pn pc)) := fun W hW =>
    have hd := BoxN.grown HX3.out hW (by simp)
    ⟨BoxN.cell hd 0 _ rfl, BoxN.cell hd 1 _ rfl, BoxN.cell hd 2 _ rfl, BoxN.cell hd 3 _ rfl⟩
  have HB : Hid (∀ W, w3.grownBy W none → Below w.heap.size w W) := fun W hW => HB3.out.trans ((grown_below hW).mono HB3.out.size)
  go_wp2
  refine wp_region_calm ⟨[7, 10], fun k v _ => if k = 7 then v = .string (bs Z) else v = .bool r, fun _ => [], 99, none, 1000⟩ (by kernel_rfl) (by kernel_rfl) (by kernel_rfl) (fun g h => by cases h) (fun k hk v W W' c h hg hc => h) ?_
  iterate 7 (refine calm_quiet (v := ?_) (by rfl) (by rfl) (fun W hW hD => ?_) ?_; rotate_left; (· (obtain ⟨z0, z1, z2, z3⟩ := HQ.out W hW; clear hD hW; go_simp; try with_reducible rfl)); simp only [Act.put, List.setIfInBounds_toArray, List.set_cons_zero, List.set_cons_succ, Nat.reduceAdd, Nat.zero_add])
  refine calm_makes (by rfl) (by rfl) (fun W hW hD Kc hK => ?_) (fun v14 => ?_)
  · refine wp_of_call (f := 53) (args := #[.string (bs s), .slice na n nc]) ?_ ((seal_any s (.slice na n nc) l W (HL.out.later (HB.out W hW) (Nat.le_refl _)) HZ.out.1 (by have := HZ.out.2; omega) (by rw [HSl.out]; omega) (HT.out.below (HB.out W hW) (Nat.le_refl _))).mono ?_)
    · clear hD hW hK
      go_simp
    · rintro e w5 ⟨rfl, hb5⟩
      exact ⟨_, rfl, hK _ _ (made_plain (by show _ = _; rw [HZs.out]; rfl) hb5 rfl)⟩
  simp only [Act.put, List.setIfInBounds_toArray, List.set_cons_zero, List.set_cons_succ, Nat.reduceAdd, Nat.zero_add]
  iterate 2 (refine calm_quiet (v := ?_) (by rfl) (by rfl) (fun W hW hD => ?_) ?_; rotate_left; (· (obtain ⟨z0, z1, z2, z3⟩ := HQ.out W hW; clear hD hW; go_simp; try with_reducible rfl)); simp only [Act.put, List.setIfInBounds_toArray, List.set_cons_zero, List.set_cons_succ, Nat.reduceAdd, Nat.zero_add])
  refine calm_makes (by rfl) (by rfl) (fun W hW hD Kc hK => ?_) (fun v19 => ?_)
  · obtain rfl : v14 = .string (bs Z) := hD [] 7 (by kernel_rfl) (by kernel_rfl) (by kernel_rfl)
    refine wp_of_call (f := 52) (args := #[.string (bs root), .int .i64 100, .int .i64 u, .string (bs Z), .slice pa pn pc]) ?_ ((verify_any root 100 u Z (.slice pa pn pc) ps W (by omega) (by have := HId.out; omega) (by rw [HZl.out]; omega) (HP.out.later (HB.out W hW) (Nat.le_refl _)) (by rw [HPn.out]; exact HPl.out) (HT.out.below (HB.out W hW) (Nat.le_refl _))).mono ?_)
    · clear hD hW hK
      go_simp
    · rintro e w5 ⟨rfl, hb5⟩
      exact ⟨_, rfl, hK _ _ (made_plain (by show _ = _; rw [HR.out]; rfl) hb5 rfl)⟩
  simp only [Act.put, List.setIfInBounds_toArray, List.set_cons_zero, List.set_cons_succ, Nat.reduceAdd, Nat.zero_add]
  iterate 1 (refine calm_quiet (v := ?_) (by rfl) (by rfl) (fun W hW hD => ?_) ?_; rotate_left; (· (clear hD hW; go_simp; try with_reducible rfl)); simp only [Act.put, List.setIfInBounds_toArray, List.set_cons_zero, List.set_cons_succ, Nat.reduceAdd, Nat.zero_add])
  refine calm_nil fun W hW hF => ?_
  obtain rfl : v19 = .bool r := hF 10 (by kernel_rfl) (by kernel_rfl)
  have HBf := Lib.hid (HB.out W hW)
  clear hF hW HQ
  go_wp2
  go_ret
  exact ⟨by rw [HF.out, ← HZs.out, ← HR.out]; try rfl, HBf.out⟩
end Go.Proofs.YteicimmdcdjagaaGreatDoor
