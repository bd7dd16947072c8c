import Derived.Test.YteicimmdcdjagaaGreatDoorVPg
import Derived.Test.YteicimmdcdjagaaGreatDoorVIdx
import Derived.Test.YteicimmdcdjagaaGreatDoorVAddW
set_option linter.unusedVariables false
set_option linter.unusedSimpArgs false

/- view: Pages. -/
set_option linter.unusedVariables false
set_option linter.unusedSimpArgs false
namespace Go.Proofs.YteicimmdcdjagaaGreatDoor
open Go.RowKit Go.Shelf

/-- A page of a unit, as Pages makes it. -/
def PageAt (B : Nat) (W : World) (key : List UInt8) (l : List VNote) (ls : List Bytes) (u : Nat) (r : PageR) : Prop :=
  r.unit = (u : Int) ∧ r.salt = saltB key u ∧ OwnK noteK B W (.slice r.na r.nn r.nc) (ofN l u) ∧ OwnS B W (.slice r.pa r.pn r.pc) (proofL ls u)
theorem ownK_isblock {α : Type} {K : SK α} {base : Nat} {W : World} {u : Value} {l : List α} (h : OwnK K base W u l) {g : Nat} (hu : u.ownBlock = some g) : ∃ cs fr, W.heap[g]? = some (.cells cs K.ty fr) := by
  rcases h.2 with ⟨rfl, _⟩ | ⟨g', cap, cur, rfl, _, hg, _⟩
  · cases hu
  · simp only [Value.ownBlock, Option.some.injEq] at hu
    subst hu
    exact ⟨_, _, hg⟩
theorem ownS_block {base : Nat} {W : World} {u : Value} {l : List Bytes} {g : Nat} {cs : Array Value} {t : TypeId} {fr : Nat × Nat} (h : OwnS base W u l) (hu : u.ownBlock = some g) (hb : W.heap[g]? = some (.cells cs t fr)) : t = 9 := by
  rcases h.2 with ⟨rfl, _⟩ | ⟨g', cap, cur, rfl, _, hg, _⟩
  · cases hu
  · simp only [Value.ownBlock, Option.some.injEq] at hu
    subst hu
    rw [hg] at hb
    cases hb
    rfl
theorem PageAt.kept {B : Nat} {W W' : World} {key : List UInt8} {l : List VNote} {ls : List Bytes} {u : Nat} {r : PageR} {c : Option Nat} (h : PageAt B W key l ls u r) (hg : W.grownBy W' c) (hc : ∀ g, c = some g → ∃ cs fr, W.heap[g]? = some (.cells cs 39 fr)) : PageAt B W' key l ls u r :=
  ⟨h.1, h.2.1, h.2.2.1.kept hg fun g hh e => (by
    obtain ⟨cs, fr, hb⟩ := hc g hh
    exact absurd (ownK_block h.2.2.1 e hb) (by decide)), ownS_kept h.2.2.2 hg fun g hh e => (by
    obtain ⟨cs, fr, hb⟩ := hc g hh
    exact absurd (ownS_block h.2.2.2 e hb) (by decide))⟩
theorem PageAt.below {B : Nat} {W W' : World} {key : List UInt8} {l : List VNote} {ls : List Bytes} {u : Nat} {r : PageR} (h : PageAt B W key l ls u r) (hb : Below W.heap.size W W') : PageAt B W' key l ls u r :=
  h.kept (grown_ofB hb none) (fun g h => by cases h)
theorem PageAt.mono {B B' : Nat} {W : World} {key : List UInt8} {l : List VNote} {ls : List Bytes} {u : Nat} {r : PageR} (h : PageAt B W key l ls u r) (hB : B' ≤ B) : PageAt B' W key l ls u r :=
  ⟨h.1, h.2.1, h.2.2.1.mono hB, OwnS.mono h.2.2.2 hB⟩
/-- The pages of some units. -/
def PagesAt (B : Nat) (W : World) (key : List UInt8) (l : List VNote) (ls : List Bytes) (us : List Nat) (rs : List PageR) : Prop :=
  rs.length = us.length ∧ ∀ (i u : Nat), us[i]? = some u → ∃ r, rs[i]? = some r ∧ PageAt B W key l ls u r
theorem PagesAt.nil (B : Nat) (W : World) (key : List UInt8) (l : List VNote) (ls : List Bytes) : PagesAt B W key l ls [] [] := ⟨rfl, fun i u h => by simp at h⟩
theorem PagesAt.map {B B' : Nat} {W W' : World} {key : List UInt8} {l : List VNote} {ls : List Bytes} {us : List Nat} {rs : List PageR} (h : PagesAt B W key l ls us rs) (hm : ∀ u r, PageAt B W key l ls u r → PageAt B' W' key l ls u r) : PagesAt B' W' key l ls us rs :=
  ⟨h.1, fun i u hu => by
    obtain ⟨r, h1, h2⟩ := h.2 i u hu
    exact ⟨r, h1, hm u r h2⟩⟩
theorem PagesAt.snoc {B : Nat} {W : World} {key : List UInt8} {l : List VNote} {ls : List Bytes} {us : List Nat} {rs : List PageR} {u : Nat} {r : PageR} (h : PagesAt B W key l ls us rs) (hr : PageAt B W key l ls u r) : PagesAt B W key l ls (us ++ [u]) (rs ++ [r]) := by
  refine ⟨by simp [h.1], fun i v hv => ?_⟩
  by_cases hi : i < us.length
  · rw [List.getElem?_append_left hi] at hv
    obtain ⟨r', h1, h2⟩ := h.2 i v hv
    exact ⟨r', by rw [List.getElem?_append_left (by rw [h.1]; exact hi)]; exact h1, h2⟩
  · rw [List.getElem?_append_right (by omega)] at hv
    have hlt := (List.getElem?_eq_some_iff.1 hv).1
    simp at hlt
    obtain rfl : i = us.length := by omega
    simp at hv
    subst hv
    exact ⟨r, by rw [List.getElem?_append_right (by rw [h.1]; exact Nat.le_refl _), h.1]; simp, hr⟩
theorem shown_succ (p : Nat → Bool) (k : Nat) : (List.range (k + 1)).filter p = (List.range k).filter p ++ if p k then [k] else [] := by
  rw [List.range_succ, List.filter_append]
  congr 1
  cases h : p k <;> simp [h]
abbrev pageR (r : PageR) : Array Value := #[.int .i64 r.unit, .slice r.na r.nn r.nc, .string (bs r.salt), .slice r.pa r.pn r.pc]
theorem rowP_lit (W : World) (x : PageR) : RowsAt pageK (W.alloc (.cells (pageR x) 39)).heap.size (W.alloc (.cells (pageR x) 39)) (.slice (some ⟨W.heap.size, 0, none⟩) 1 1) [x] :=
  (ownK_lit pageOk W [x] _ rfl (by simp)).rows pageOk
/-- Between two rounds of Pages. -/
def PgsR (W0 : World) (key : List UInt8) (l : List VNote) (ls : List Bytes) (tl : List VTitle) (o d : Int) (k : Nat) (v : Value) (W : World) : Prop :=
  ∃ rs, OwnK pageK W0.heap.size W v rs ∧ PagesAt W0.heap.size W key l ls ((List.range k).filter fun (u : Nat) => mayB tl o u d) rs ∧ Below W0.heap.size W0 W
/-- The units that Pages shows, and its error. -/
def pagesN (d : VDos) (tl : List VTitle) (o t : Int) : List Nat := if dosB d && titledB tl then shownL tl o t else []
def pagesC (d : VDos) (tl : List VTitle) : Int := if dosB d && titledB tl then 0 else 400
theorem pages_bad {d : VDos} {tl : List VTitle} (h : (dosB d && titledB tl) = false) (o t : Int) : pagesN d tl o t = [] ∧ pagesC d tl = 400 := by unfold pagesN pagesC; rw [h]; exact ⟨rfl, rfl⟩
theorem pages_ok {d : VDos} {tl : List VTitle} (h : (dosB d && titledB tl) = true) (o t : Int) : pagesN d tl o t = shownL tl o t ∧ pagesC d tl = 0 := by unfold pagesN pagesC; rw [h]; exact ⟨rfl, rfl⟩
set_option maxRecDepth 100000 in
set_option maxHeartbeats 4000000 in
theorem vPages_any (key : List UInt8) (nv : Value) (l : List VNote) (tv : Value) (tl : List VTitle) (o d : Int) (w : World) (h : RowsAt noteK w.heap.size w nv l) (hl : l.length ≤ 1000000) (ht : RowsAt titleK w.heap.size w tv tl) (htl : tl.length ≤ 1000000) (hT : Rounds w) :
    Calls Tryz.prog 28 #[dosV key nv, tv, .int .i64 o, .int .i64 d] w fun e w' => ∃ pv rs, e = .returned (.tuple #[pv, .int .i64 (pagesC ⟨key, l⟩ tl)]) ∧ OwnK pageK w.heap.size w' pv rs ∧ PagesAt w.heap.size w' key l (sealsL ⟨key, l⟩) (pagesN ⟨key, l⟩ tl o d) rs ∧ Below w.heap.size w w' := by
  obtain ⟨a, c, rfl, hlc, hcm⟩ := h.shape
  obtain ⟨ta, tc, rfl, _, _⟩ := ht.shape
  have hb0 : Below w.heap.size w (w.alloc (.cells #[.string (bs key), .slice a l.length c] 26)) := (Below.refl _ _).alloc (Nat.le_refl _) _
  have HV := Lib.hid (vValid_any key (.slice a l.length c) l _ (h.later hb0 (Nat.le_refl _)) hl)
  have HB0 := Lib.hid hb0
  have HL := Lib.hid h
  have HT := Lib.hid hT
  have HTv := Lib.hid ht
  have HTl := Lib.hid htl
  have HDos : Hid (DosN w.heap.size key (.slice a l.length c) (w.alloc (.cells #[.string (bs key), .slice a l.length c] 26))) := box_new w _ _
  clear h hb0 hT ht hl htl hlc hcm
  generalize hn : l.length = n at *
  have HN := Lib.hid hn
  clear hn
  generalize htn : tl.length = tn at *
  have HTn := Lib.hid htn
  clear htn
  have q0 := DosN.c0 HDos.out
  have q1 := DosN.c1 HDos.out
  go_enter Tryz.func28, Tryz.ntmps28
  go_wp2_with fail
  clear q0 q1
  generalize w.alloc (.cells #[.string (bs key), .slice a n c] 26) = W0 at *
  refine HV.out.mono ?_
  rintro e w1 ⟨rfl, hb⟩
  have HD1 : Hid (DosN w.heap.size key (.slice a n c) w1) := BoxN.below HDos.out hb HDos.out.lt
  have HB1 := Lib.hid (HB0.out.trans (hb.mono HB0.out.size))
  clear hb HV HDos HB0
  cases hd : dosB ⟨key, l⟩
  · have HE := Lib.hid (pages_bad (d := ⟨key, l⟩) (tl := tl) (by rw [hd]; rfl) o d)
    clear hd
    go_wp2
    go_ret2
    exact ⟨_, [], by rw [HE.out.2]; try rfl, OwnK.nil _ _, by rw [HE.out.1]; exact PagesAt.nil _ _ _ _ _, HB1.out⟩
  have HTi := Lib.hid (titled_any (.slice ta tn tc) tl w1 (HTv.out.later HB1.out (Nat.le_refl _)) (by rw [HTn.out]; exact HTl.out))
  have HHd := Lib.hid hd
  clear hd
  go_wp2_with fail
  refine HTi.out.mono ?_
  rintro e w2 ⟨rfl, hb⟩
  have HD2 : Hid (DosN w.heap.size key (.slice a n c) w2) := BoxN.below HD1.out hb HD1.out.lt
  have HB2 := Lib.hid (HB1.out.trans (hb.mono HB1.out.size))
  clear hb HTi HD1 HB1
  cases htd : titledB tl
  · have HE := Lib.hid (pages_bad (d := ⟨key, l⟩) (tl := tl) (by rw [htd, Bool.and_false]) o d)
    clear htd
    go_wp2
    go_ret2
    exact ⟨_, [], by rw [HE.out.2]; try rfl, OwnK.nil _ _, by rw [HE.out.1]; exact PagesAt.nil _ _ _ _ _, HB2.out⟩
  have HHt := Lib.hid htd
  obtain ⟨d1, d2, d3⟩ := dosB_z HHd.out
  have HKy : Hid (key.length = 32) := d1
  have HLl : Hid (l.length ≤ 60) := d3
  have HS := Lib.hid (seals_any key (.slice a n c) l w2 (HL.out.later HB2.out (Nat.le_refl _)) d2 (by omega) (by omega) (HT.out.below HB2.out (Nat.le_refl _)))
  obtain ⟨ls, hls⟩ : ∃ ls, ls = sealsL ⟨key, l⟩ := ⟨_, rfl⟩
  have hsl := sealsL_length ⟨key, l⟩
  rw [← hls] at HS hsl
  have HLs := Lib.hid hls
  have HLe : Hid (∀ x ∈ ls, x.length = 32) := fun x hx => by
    rw [hls] at hx
    obtain ⟨i, _, rfl⟩ := List.mem_map.1 hx
    exact nodeB_length _ _
  have HSl := Lib.hid hsl
  have q0 := DosN.c0 HD2.out
  have q1 := DosN.c1 HD2.out
  clear htd d1 d2 d3 hls hsl
  go_wp2_with fail
  clear q0 q1
  refine HS.out.mono ?_
  rintro e w3 ⟨rfl, hb⟩
  have HD3 : Hid (DosN w.heap.size key (.slice a n c) w3) := BoxN.below HD2.out hb HD2.out.lt
  have HB3 := Lib.hid (HB2.out.trans (hb.mono HB2.out.size))
  clear hb HS HD2 HB2
  have HSz : Hid ((Tryz.prog.info? 74).map (·.size) = some (arrC ls).size) := by show _ = _; rw [arrC_size, HSl.out]; kernel_rfl
  have HOne : Hid ((arrC ls).all (·.oneCell') = true) := arrC_one _
  have HTh : Hid ((w3.alloc (.cells (arrC (List.replicate 100 [])) 74)).there w3.heap.size 0 (arrC ls).size) := there_new (by rw [arrC_size, arrC_size, HSl.out, List.length_replicate]; exact Nat.le_refl _)
  obtain ⟨g, hg⟩ : ∃ g, g = w3.heap.size := ⟨_, rfl⟩
  go_wp2_with ((with_reducible refine wpList_store_mid ?_ 74 (.tmp 10) (.tmp 22) ?_ w3.heap.size 0 (arrC ls) ?_ ?_ ?_ HSz.out HOne.out ?_); exact rfl; exact rfl; exact rfl; exact rfl; exact HTh.out; refine wpl_gen (fun W' => ArrN w3.heap.size ls W' ∧ Below w3.heap.size w3 W') (arr_made w3 ls HSl.out) ?_; intro W4 hR4)
  rw [← hg] at hR4 ⊢
  have hz3 : w.heap.size < g := by rw [hg]; exact HD3.out.lt
  have hA4 := hR4.1
  have HB4 := Lib.hid (HB3.out.trans ((hg ▸ hR4.2 : Below g w3 W4).mono (by rw [hg]; exact HB3.out.size)))
  have HD4 : Hid (DosN w.heap.size key (.slice a n c) W4) := BoxN.below HD3.out (hg ▸ hR4.2 : Below g w3 W4) hz3
  have HA4 := Lib.hid hA4
  clear hA4 hR4 hg HD3 HB3 HTh
  go_loopw [11, 23] (fun v i wr => ∃ k : Nat, k ≤ 100 ∧ i = .int .i64 k ∧ (∃ ra rn rc, v = .slice ra rn rc) ∧ Hid (PgsR W4 key l ls tl o d k v wr)) (fun v i _ => 100 - (intOf i).toNat)
  case atStart => exact ⟨0, Nat.zero_le _, rfl, ⟨_, _, _, rfl⟩, Lib.hid ⟨[], OwnK.nil _ _, PagesAt.nil _ _ _ _ _, Below.refl _ _⟩⟩
  case round =>
    obtain ⟨k, hk, rfl, ⟨ra, rn, rc, rfl⟩, HR⟩ := hrel
    by_cases h1 : k < 100
    · have ji : (k : Int) < 100 := by omega
      have HBr : Hid (Below W4.heap.size W4 wr) := by obtain ⟨rs, _, _, h⟩ := HR.out; exact h
      have HBw := Lib.hid (HB4.out.trans (HBr.out.mono HB4.out.size))
      have HM := Lib.hid (may_any (.slice ta tn tc) tl o k d wr (HTv.out.later HBw.out (Nat.le_refl _)) (by rw [HTn.out]; exact HTl.out))
      have HSu := Lib.hid (shown_succ (fun (u : Nat) => mayB tl o u d) k)
      go_wp2_with fail
      refine HM.out.mono ?_
      rintro e w5 ⟨rfl, hb⟩
      have HR5 : Hid (PgsR W4 key l ls tl o d k (.slice ra rn rc) w5) := by
        obtain ⟨rs, h1, h2, h3⟩ := HR.out
        exact ⟨rs, h1.below hb (Nat.le_refl _), h2.map (fun u r h => h.below hb), h3.trans (hb.mono h3.size)⟩
      have HB5 := Lib.hid (HBr.out.trans (hb.mono HBr.out.size))
      have HBw5 := Lib.hid (HBw.out.trans (hb.mono HBw.out.size))
      clear hb HM HR HBr HBw
      cases hm : mayB tl o k d
      · have HR6 : Hid (PgsR W4 key l ls tl o d (k + 1) (.slice ra rn rc) w5) := by
          obtain ⟨rs, h1, h2, h3⟩ := HR5.out
          refine ⟨rs, h1, ?_, h3⟩
          rw [HSu.out, hm]
          simpa using h2
        clear hm HSu HR5
        go_wp2
        go_roundw
        case rel => exact ⟨k + 1, by omega, by go_num, ⟨_, _, _, rfl⟩, HR6⟩
        case measure => simp [intOf]; omega
      · have HMy := Lib.hid hm
        have HD5 : Hid (DosN w.heap.size key (.slice a n c) w5) := BoxN.below HD4.out HB5.out HD4.out.lt
        have HA5 : Hid (ArrN g ls w5) := BoxN.below HA4.out HB5.out HA4.out.lt
        have HPg := Lib.hid (page_any key (.slice a n c) l ls k w5 (HL.out.later HBw5.out (Nat.le_refl _)) (by have := HLl.out; omega) (by rw [HKy.out]; omega) HSl.out HLe.out (by omega) (by omega) (HT.out.below HBw5.out (Nat.le_refl _)))
        have q0 := DosN.c0 HD5.out
        have q1 := DosN.c1 HD5.out
        have HU : Hid (w5.heap[g]? = some (.cells (arrC ls) 74 (0, 0))) := HA5.out
        clear hm
        go_wp2_with ((with_reducible refine wpList_load_row ?_ 74 (.tmp 10) ?_ g ?_ 74 (arrC ls) (0, 0) _ HU.out Tryz.underlying74 ?_ HSz.out ?_); exact rfl; exact rfl; exact rfl; exact rfl)
        clear q0 q1
        refine HPg.out.mono ?_
        rintro e w6 ⟨nv', pv, rfl, hn6, hp6, hb⟩
        obtain ⟨xa, xc, hnv, _, _⟩ := hn6.shape
        obtain ⟨pa, pc, hpv, _, _⟩ := ownS_shape hp6
        subst hnv hpv
        generalize (ofN l (k : Int)).length = xn at *
        generalize (proofL ls ((k : Int)).toNat).length = pn at *
        obtain ⟨S, hS⟩ : ∃ S, S = saltB key k := ⟨_, rfl⟩
        rw [← hS]
        obtain ⟨rs, o1, o2, o3⟩ := HR5.out
        have hz5 := HB5.out.size
        have hz6 := hb.size
        have hrl : rs.length ≤ 100 := by
          have e1 := o2.1
          have e2 := List.length_filter_le (fun (u : Nat) => mayB tl o u d) (List.range k)
          rw [List.length_range] at e2
          omega
        have o1' := o1.below hb (Nat.le_refl _)
        have o2' := o2.map (fun u r h => h.below hb)
        have o3' := o3.trans (hb.mono hz5)
        have hp : PageAt W4.heap.size w6 key l ls k ⟨k, xa, xn, xc, S, pa, pn, pc⟩ := ⟨rfl, hS, hn6.mono hz5, OwnS.mono hp6 hz5⟩
        have hal := World.grownBy_alloc w6 (.cells (pageR ⟨k, xa, xn, xc, S, pa, pn, pc⟩) 39) none
        have HRow := Lib.hid (rowP_lit w6 ⟨k, xa, xn, xc, S, pa, pn, pc⟩)
        have HO := Lib.hid (o1'.kept hal (fun g h => by cases h))
        have HPs := Lib.hid (o2'.map (fun u r h => h.kept hal (fun g h => by cases h)))
        have HP := Lib.hid (hp.kept hal (fun g h => by cases h))
        have HB6 := Lib.hid (o3'.alloc (Nat.le_trans hz5 hz6) (.cells (pageR ⟨k, xa, xn, xc, S, pa, pn, pc⟩) 39))
        have hzz : W4.heap.size ≤ (w6.alloc (.cells (pageR ⟨k, xa, xn, xc, S, pa, pn, pc⟩) 39)).heap.size := by simp; omega
        clear hb HPg hS hn6 hp6 o1 o2 o3 o1' o2' o3' hp hal HR5
        go_wp2_with (at_builtin; refine append_KK pageOk rfl _ _ rfl W4.heap.size _ _ _ rs [⟨k, xa, xn, xc, S, pa, pn, pc⟩] rfl rfl HO.out HRow.out (by simp; omega) hzz W4 HB6.out ?_; intro v' w7 hown' hgrow hbelow; obtain ⟨a', c', hsh, _, _⟩ := hown'.shape; rw [List.length_append, List.length_singleton] at hsh; subst hsh)
        have HR7 : Hid (PgsR W4 key l ls tl o d (k + 1) (.slice a' (rs.length + 1) c') w7) := by
          have hbt := fun g hg => ownK_isblock HO.out (g := g) hg
          refine ⟨_, hown', ?_, hbelow⟩
          rw [HSu.out, if_pos HMy.out]
          exact (HPs.out.map (fun u r h => h.kept hgrow hbt)).snoc (HP.out.kept hgrow hbt)
        clear hown' hgrow hbelow HO HRow HPs HP HB6 HSu
        go_roundw
        case rel => exact ⟨k + 1, by omega, by go_num, ⟨_, _, _, rfl⟩, HR7⟩
        case measure => simp [intOf]; omega
    · obtain rfl : k = 100 := by omega
      have HE := Lib.hid (pages_ok (d := ⟨key, l⟩) (tl := tl) (by rw [HHd.out, HHt.out]; rfl) o d)
      clear h1 hk
      go_wp2
      go_ret2
      obtain ⟨rs, h1, h2, h3⟩ := HR.out
      have hz := HB4.out.size
      exact ⟨_, rs, by rw [HE.out.2]; try rfl, h1.mono hz, by rw [HE.out.1, ← HLs.out]; exact h2.map (fun u r h => h.mono hz), HB4.out.trans (h3.mono hz)⟩
end Go.Proofs.YteicimmdcdjagaaGreatDoor
