/- Root of an index. -/
import Derived.Test.YtcgopilkajfghaaGreatDoorIBusy
import Derived.Test.YtcgopilkajfghaaGreatDoorMTreeB
import Derived.Test.YtcgopilkajfghaaGreatDoorMWire
import Derived.Test.YtcgopilkajfghaaGreatDoorShelf
import Derived.Shelf.Strings.BuilderK
set_option linter.unusedVariables false
set_option linter.unusedSimpArgs false
namespace Go.Proofs.YtcgopilkajfghaaGreatDoor
open Go.RowKit Go.Shelf

abbrev IsB (B b : Nat) (l : List UInt8) (w : World) : Prop := Lib.IsBuilderF 95 5 B b (Lib.byteCells l) w
theorem bld_write (B b : Nat) (l s : List UInt8) (w : World) (h : IsB B b l w) (hlen : l.length + s.length ≤ 140737488355328) (hB : B ≤ w.heap.size) :
    Calls Tryz.prog 55 #[.pointer (some ⟨b, 0, none⟩), .string (bs s)] w fun e w' => e = .returned (.tuple #[.int .i64 ((bs s).size : Nat), .nilIface]) ∧ IsB B b (l ++ s) w' ∧ Below B w w' ∧ Lib.OthersKept 5 (some b) w w' := by
  have h1 := Any.Builder_WriteString_k { Tryz.lays156 with } Tryz.Builder_Extra_156 B b (Lib.byteCells l) (bs s) w h (by rw [Lib.byteCells_length]; exact hlen) hB
  refine h1.mono ?_
  rintro e w' ⟨h1, h2, h3, h4⟩
  refine ⟨h1, .inr ?_, h3, h4⟩
  rw [Lib.byteCells_append]
  exact h2
theorem bld_new (w : World) : IsB w.heap.size w.heap.size [] (w.alloc (.cells #[.pointer none, .slice none 0 0] 95)) :=
  Lib.IsBuilderF.of (.inl ⟨Nat.le_refl _, .slice none 0 0, World.alloc_heap_new w _, World.ownsRow_nil _ _ _ _, fun h => by cases h⟩)
theorem bld_string (B b : Nat) (l : List UInt8) (w : World) (h : IsB B b l w) (hB : B ≤ w.heap.size) :
    Calls Tryz.prog 56 #[.pointer (some ⟨b, 0, none⟩)] w fun e w' => e = .returned (.string (bs l)) ∧ Below B w w' := (Tryz.Builder_String_any_f B b l w h hB).mono fun _ _ ⟨h1, _, h3⟩ => ⟨h1, h3⟩
theorem bld_below {B b : Nat} {l : List UInt8} {w w' : World} (h : IsB B b l w) (hb : Below w.heap.size w w') : IsB B b l w' := by
  have key : ∀ p, Lib.BuilderAtF 95 5 B b p (Lib.byteCells l) w → Lib.BuilderAtF 95 5 B b p (Lib.byteCells l) w' := by
    rintro p ⟨h1, v, h2, h3, h4⟩
    exact ⟨h1, v, (hb.block b (Array.getElem?_eq_some_iff.1 h2).1).trans h2, h3.kept (grown_of_below hb none) (by cases v.ownBlock <;> simp), h4⟩
  exact h.imp (key _) (key _)
/-- The string of a card. -/
def numsC (c : ICard) : List Int := [c.id, c.unit, c.kind, c.beg, c.fin]
def catC (l : List Int) : List UInt8 := (l.map fun n => (putInt n).1).flatten
def codeC (c : ICard) : List UInt8 := catC (numsC c)
def codesC (l : List ICard) : List (List UInt8) := l.map codeC
theorem putInt_len (n : Int) : (putInt n).1.length ≤ 10 := by
  unfold putInt
  split
  · have := enc_length (zz n); omega
  · simp
theorem catC_len : ∀ l : List Int, (catC l).length ≤ 10 * l.length
  | [] => by simp [catC]
  | n :: t => by
    have h1 := catC_len t
    have h2 := putInt_len n
    unfold catC at *
    rw [List.map_cons, List.flatten_cons, List.length_append, List.length_cons]
    omega
theorem catC_next (l : List Int) (k : Nat) (h : k < l.length) : catC (l.take (k + 1)) = catC (l.take k) ++ (putInt (l.getD k 0)).1 := by
  have e : l.take (k + 1) = l.take k ++ [l.getD k 0] := by
    rw [List.take_add_one, List.getD_eq_getElem?_getD, List.getElem?_eq_getElem h]
    rfl
  unfold catC
  rw [e, List.map_append, List.flatten_append]
  simp
def strK : SK Bytes := ⟨9, 91, 1, 16, .string (⟨#[]⟩ : ByteArray), fun b => [.string (bs b)]⟩
theorem strOk : strK.Ok where
  pos := by decide
  len := fun _ => rfl
  one := fun x u hu => by
    simp only [strK, List.mem_cons, List.not_mem_nil, or_false] at hu
    subst hu
    rfl
  und := Tryz.underlying91
  info := by kernel_rfl
  zc := rfl
  small := by decide
theorem RowsAt.strsK {B : Nat} {w : World} {v : Value} {l : List Bytes} (h : RowsAt strK B w v l) : StrsAt B w v l := by
  obtain ⟨a, c, rfl, h1, h2, h3⟩ := h
  refine ⟨a, c, rfl, h1, h2, fun hp => ?_⟩
  obtain ⟨b, off, ha, hb, hc⟩ := h3 hp
  refine ⟨b, off, ha, hb, fun i hi => ?_⟩
  have := hc i (l.getD i []) (by rw [List.getD_eq_getElem?_getD, List.getElem?_eq_getElem hi]; rfl) 0 _ rfl
  simpa [strK] using this
theorem Turn.of_belowB {B : Nat} {a c : World} (h : Below B a c) : Turn (fun k => B ≤ k) a c := ⟨h.os, h.tape, h.output, h.size, fun j _ hn => h.block j (by omega)⟩
theorem codeC_len (c : ICard) : (codeC c).length ≤ 50 := catC_len (numsC c)
def numAt (c : ICard) (j : Nat) : Int := (numsC c).getD j 0
theorem numAt_cell (c : ICard) (j : Nat) (hj : j < 5) : (#[.int .i64 c.id, .int .i64 c.unit, .int .i64 c.kind, .int .i64 c.beg, .int .i64 c.fin] : Array Value)[j]? = some (.int .i64 (numAt c j)) := by
  rcases j with _ | _ | _ | _ | _ | j
  all_goals first | rfl | omega
set_option maxRecDepth 100000 in
set_option maxHeartbeats 4000000 in
theorem iroot_any {S : Nat → Prop} {X : Nat} {l : List ICard} (w : World) (hN : IdxN S X l w) (hT : Rounds w) :
    Calls Tryz.prog 32 #[.pointer (some ⟨X, 0, none⟩)] w fun e w' => e = .returned (.string (bs (rootL (codesC l)))) ∧ Below w.heap.size w w' := by
  obtain ⟨m, ov, T, D, h⟩ := hN
  have c1 := h.c1
  have HR := Lib.hid (h.order.rows cardOk)
  have HT := Lib.hid hT
  have hfew := h.ok.few
  obtain ⟨oa, oc, hov, hlc, hcm⟩ := h.order.shape
  subst hov
  unfold maxLen at hcm
  clear h hT
  generalize hn : l.length = n at *
  have HN := Lib.hid hn
  clear hn
  go_enter Tryz.func32, Tryz.ntmps32
  go_wp2
  clear c1
  go_loopw [3, 19] (fun v i wr => ∃ k : Nat, k ≤ n ∧ i = .int .i64 k ∧ (∃ ta tn tc, v = .slice ta tn tc) ∧ Hid (OwnK strK w.heap.size wr v (codesC (l.take k))) ∧ Hid (Below w.heap.size w wr)) (fun _ i _ => n - (intOf i).toNat)
  case atStart => exact ⟨0, Nat.zero_le _, rfl, ⟨_, _, _, rfl⟩, Lib.hid (OwnK.nil _ _), Lib.hid (Below.refl _ _)⟩
  case round =>
    obtain ⟨k, hk, rfl, ⟨ta, tn, tc, rfl⟩, HO, HB⟩ := hrel
    by_cases hlt : k < n
    · have kk : (k : Int) < (n : Int) := by omega
      have kz : 0 ≤ (k : Int) := by omega
      obtain ⟨c, hc⟩ : ∃ c, c = l.getD k default := ⟨_, rfl⟩
      have hget : l[k]? = some c := by rw [hc, List.getD_eq_getElem?_getD, List.getElem?_eq_getElem (by rw [HN.out]; exact hlt)]; rfl
      have HNx : Hid (codesC (l.take (k + 1)) = codesC (l.take k) ++ [codeC c]) := by
        show _ = _
        rw [List.take_add_one, hget]
        simp [codesC]
      have hrw : RowsAt cardK wr.heap.size wr (.slice oa n oc) l := HR.out.later HB.out (Nat.le_refl _)
      obtain ⟨gb, off, hae, hgb, e0, e1, e2, e3, e4⟩ := cards_at hrw k c hget
      subst hae
      obtain ⟨b, hb⟩ : ∃ b, b = wr.heap.size + 1 := ⟨_, rfl⟩
      obtain ⟨W3, hW3⟩ : ∃ W3, W3 = ((wr.alloc (.cells (cardR c) 35)).alloc (.cells #[.pointer none, .slice none 0 0] 95)).alloc (.cells #[.int .i64 c.id, .int .i64 c.unit, .int .i64 c.kind, .int .i64 c.beg, .int .i64 c.fin] 3) := ⟨_, rfl⟩
      have hB3 : Hid (IsB b b [] W3) := by
        have h1 := bld_new (wr.alloc (.cells (cardR c) 35))
        rw [World.size_alloc, ← hb] at h1
        show IsB _ _ _ _
        rw [hW3]
        exact bld_below h1 ((Below.refl _ _).alloc (Nat.le_refl _) _)
      have hX3 : Hid (BoxN (b + 1) 3 #[.int .i64 c.id, .int .i64 c.unit, .int .i64 c.kind, .int .i64 c.beg, .int .i64 c.fin] W3) := by
        have h1 := box_new ((wr.alloc (.cells (cardR c) 35)).alloc (.cells #[.pointer none, .slice none 0 0] 95)) 3 #[.int .i64 c.id, .int .i64 c.unit, .int .i64 c.kind, .int .i64 c.beg, .int .i64 c.fin]
        rw [World.size_alloc, World.size_alloc, ← hb] at h1
        show BoxN _ _ _ _
        rw [hW3]
        exact h1
      have hS3 : W3.heap.size = b + 2 := by rw [hW3]; simp; omega
      have HBl : Hid (Below wr.heap.size wr W3) := by show Below _ _ _; rw [hW3]; exact (((Below.refl _ _).alloc (Nat.le_refl _) _).alloc (by simp) _).alloc (by simp; omega) _
      have HW3 := Lib.hid hW3
      have HB1 := Lib.hid hb
      have HS3 := Lib.hid hS3
      clear hget hc hrw hW3 hb hS3
      go_wp2
      rw [← HW3.out, ← HB1.out]
      have HBsz : Hid (w.heap.size ≤ b) := by show _ ≤ _; have := HB.out.size; have := HB1.out; omega
      have HB3w : Hid (Below w.heap.size w W3) := HB.out.trans (HBl.out.mono HB.out.size)
      have HO3 : Hid (OwnK strK w.heap.size W3 (.slice ta tn tc) (codesC (l.take k))) := HO.out.below HBl.out (Nat.le_refl _)
      have HOb : Hid (∀ g, (Value.slice ta tn tc).ownBlock = some g → g < b) := fun g hg => by have h1 := (World.ownsRow.lt HO.out g hg).2; have := HB1.out; omega
      clear e0 e1 e2 e3 e4 HB HO HBl HW3 HB1
      go_loopw [37] (fun i wr => ∃ j : Nat, j ≤ 5 ∧ i = .int .i64 j ∧ Hid (IsB b b (catC ((numsC c).take j)) wr) ∧ Hid (Below b W3 wr) ∧ Hid (BoxN (b + 1) 3 #[.int .i64 c.id, .int .i64 c.unit, .int .i64 c.kind, .int .i64 c.beg, .int .i64 c.fin] wr) ∧ Hid (b + 2 ≤ wr.heap.size)) (fun i _ => 5 - (intOf i).toNat)
      case atStart => exact ⟨0, by omega, rfl, hB3, Lib.hid (Below.refl _ _), hX3, Lib.hid (Nat.le_of_eq HS3.out.symm)⟩
      case round =>
        obtain ⟨j, hj, rfl, HI, HBj, HXj, HSj⟩ := hrel
        by_cases hj5 : j < 5
        · have jj : (j : Int) < 5 := by omega
          have j0 : 0 ≤ (j : Int) := by omega
          have x0 := BoxN.cell HXj.out j _ (numAt_cell c j hj5)
          have HCN : Hid (catC ((numsC c).take (j + 1)) = catC ((numsC c).take j) ++ (putInt (numAt c j)).1) := catC_next _ j hj5
          obtain ⟨z, hz⟩ : ∃ z, z = numAt c j := ⟨_, rfl⟩
          rw [← hz] at x0 HCN
          obtain ⟨pc, hpc⟩ : ∃ p, p = (putInt z).1 := ⟨_, rfl⟩
          have hpl : pc.length ≤ 10 := by rw [hpc]; exact putInt_len z
          have HP := Lib.hid (putInt_any z wr)
          rw [← hpc] at HP HCN
          generalize (putInt z).2 = pe at HP
          have HLn : Hid ((catC ((numsC c).take j)).length + pc.length ≤ 140737488355328) := by
            show _ ≤ _
            have h1 := catC_len ((numsC c).take j)
            have h2 : ((numsC c).take j).length ≤ 5 := by rw [List.length_take]; exact Nat.min_le_right _ _
            omega
          clear hpc hpl hz
          go_wp2_with fail
          refine HP.out.mono ?_
          rintro e w5 ⟨rfl, hb5⟩
          have HI5 := Lib.hid (bld_below HI.out hb5)
          have HX5 := Lib.hid (BoxN.below HXj.out hb5 HXj.out.lt)
          have hs5 := hb5.size
          have HB5 : Hid (Below b W3 w5) := HBj.out.trans (hb5.mono (by have := HSj.out; omega))
          have HS5 : Hid (b + 2 ≤ w5.heap.size) := by show _ ≤ _; have := HSj.out; omega
          clear hb5 hs5 HI HXj HBj HSj x0
          go_wp2_with fail
          refine (bld_write b b _ pc w5 HI5.out HLn.out (by have := HS5.out; omega)).mono ?_
          rintro e w6 ⟨rfl, hi6, hb6, hk6⟩
          rw [← HCN.out] at hi6
          have HI6 := Lib.hid hi6
          have HB6 := Lib.hid (HB5.out.trans (hb6.mono (Nat.le_refl _)))
          have HX6 : Hid (BoxN (b + 1) 3 #[.int .i64 c.id, .int .i64 c.unit, .int .i64 c.kind, .int .i64 c.beg, .int .i64 c.fin] w6) := hk6 _ _ HX5.out (by simp) (fun _ _ h => by have := (Obj.cells.inj h).2.1; exact absurd this (by decide))
          have HS6 : Hid (b + 2 ≤ w6.heap.size) := Nat.le_trans HS5.out hb6.size
          clear hi6 hb6 hk6 HI5 HX5 HB5 HS5
          go_wp2
          go_roundw
          case rel => exact ⟨j + 1, by omega, by go_num, HI6, HB6, HX6, HS6⟩
          case measure => simp [intOf]; omega
        · obtain rfl : j = 5 := by omega
          have jj : ¬ (((5 : Nat) : Int) < 5) := by omega
          have HI5 : Hid (IsB b b (codeC c) wr) := HI.out
          obtain ⟨pc, hpc⟩ : ∃ p, p = codeC c := ⟨_, rfl⟩
          rw [← hpc] at HI5 HNx
          have HS := Lib.hid (bld_string b b pc wr HI5.out (by have := HSj.out; omega))
          have HLc : Hid ((codesC (l.take k)).length + 1 < 1000000) := by show _ < _; unfold codesC; rw [List.length_map, List.length_take]; omega
          clear hpc hj5
          go_wp2_with fail
          refine HS.out.mono ?_
          rintro e w5 ⟨rfl, hb5⟩
          have hBb := HBj.out.trans hb5
          have HO5 : Hid (OwnK strK w.heap.size w5 (.slice ta tn tc) (codesC (l.take k))) := HO3.out.turn (Turn.of_belowB hBb) (fun g hg h => by have := HOb.out g hg; omega)
          have HB5 : Hid (Below w.heap.size w w5) := HB3w.out.trans (hBb.mono HBsz.out)
          have HA1 : Hid (OwnK strK w.heap.size (w5.alloc (.cells #[.string (bs pc)] 9)) (.slice ta tn tc) (codesC (l.take k))) := HO5.out.kept (World.grownBy_alloc _ _ none) (fun g h => by cases h)
          have HA2 : Hid (RowsAt strK (w5.heap.size + 1) (w5.alloc (.cells #[.string (bs pc)] 9)) (.slice (some ⟨w5.heap.size, 0, none⟩) 1 1) [pc]) := by
            have h := (ownK_lit strOk w5 [pc] #[.string (bs pc)] rfl (by simp)).rows strOk
            rw [World.size_alloc] at h
            exact h
          have HA3 : Hid (w.heap.size ≤ (w5.alloc (.cells #[.string (bs pc)] 9)).heap.size) := by show _ ≤ _; rw [World.size_alloc]; have := HB5.out.size; omega
          clear hb5 hBb HI HI5 HBj HXj HSj HO3 HS
          go_wp2_with (at_builtin; refine append_K3 strOk rfl _ _ rfl w.heap.size _ _ _ (codesC (l.take k)) [pc] rfl rfl HA1.out HA2.out HLc.out HA3.out ?_; intro v' w7 ho7 hg7 hr7)
          have HB7 : Hid (Below w.heap.size w w7) := (HB5.out.alloc HB5.out.size _).grown hg7 HA3.out (fun j hj => (World.ownsRow.lt HA1.out j hj).1)
          rw [← HNx.out] at ho7
          obtain ⟨za, zc, hv7, _, _⟩ := ho7.shape
          subst hv7
          have HO7 := Lib.hid ho7
          clear ho7 hg7 hr7
          go_roundw
          case rel => exact ⟨k + 1, by omega, by go_num, ⟨_, _, _, rfl⟩, HO7, HB7⟩
          case measure => simp [intOf]; omega
    · obtain rfl : k = n := by omega
      have kk : ¬ ((k : Int) < (k : Int)) := by omega
      have HOe : Hid (OwnK strK w.heap.size wr (.slice ta tn tc) (codesC l)) := by
        have h := HO.out
        rwa [List.take_of_length_le (by rw [HN.out]; exact Nat.le_refl _)] at h
      have HRt := Lib.hid (root_any (.slice ta tn tc) (codesC l) wr (HOe.out.rows strOk).strsK (by unfold codesC; rw [List.length_map, HN.out]; omega) (fun x hx => by
        obtain ⟨y, _, rfl⟩ := List.mem_map.1 hx
        have := codeC_len y
        omega) (HT.out.below HB.out (Nat.le_refl _)))
      clear hlt hk HO HOe
      go_wp2_with fail
      refine HRt.out.mono ?_
      rintro e w5 ⟨rfl, hb5⟩
      have HB5 := Lib.hid (HB.out.trans (hb5.mono HB.out.size))
      clear hb5
      go_wp2
      go_ret
      exact ⟨rfl, HB5.out⟩
set_option maxRecDepth 100000 in
theorem root_nil (w : World) : Calls Tryz.prog 32 #[.pointer none] w fun e w' => e = .returned (.string (bs [])) ∧ w' = w := by
  go_enter Tryz.func32, Tryz.ntmps32
  go_wp2
  go_ret
  exact ⟨rfl, rfl⟩
end Go.Proofs.YtcgopilkajfghaaGreatDoor
