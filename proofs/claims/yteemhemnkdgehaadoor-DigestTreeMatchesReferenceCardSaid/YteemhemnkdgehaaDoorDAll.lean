/- slices.IndexFunc and ContainsFunc at []string with a closure that only computes; digest.all, take, side.join. -/
import Derived.Test.YteemhemnkdgehaaDoorDExt
namespace Go.Proofs.YteemhemnkdgehaaDoor
open Go.RowKit Go.Shelf

/-- The first place that has a property. -/
def FirstAt (q : Nat → Bool) (n : Nat) (r : Int) : Prop := (∃ i : Nat, i < n ∧ q i = true ∧ (∀ j, j < i → q j = false) ∧ r = i) ∨ ((∀ j, j < n → q j = false) ∧ r = -1)
theorem FirstAt.any {q : Nat → Bool} {n : Nat} {r : Int} (h : FirstAt q n r) : decide (0 ≤ r) = (List.range n).any q := by
  rcases h with ⟨i, h1, h2, _, rfl⟩ | ⟨h1, rfl⟩
  · rw [List.any_eq_true.2 ⟨i, List.mem_range.2 h1, h2⟩]
    simp
  · rw [show (List.range n).any q = false from List.any_eq_false.2 fun j hj => by simp [h1 j (List.mem_range.1 hj)]]
    simp
theorem any_range {α : Type} (p : α → Bool) (d : α) (l : List α) : (List.range l.length).any (fun i => p (l.getD i d)) = l.any p := by
  rw [Bool.eq_iff_iff, List.any_eq_true, List.any_eq_true]
  constructor
  · rintro ⟨i, hi, h⟩
    have hi := List.mem_range.1 hi
    rw [List.getD_eq_getElem?_getD, List.getElem?_eq_getElem hi] at h
    exact ⟨_, List.getElem_mem hi, h⟩
  · rintro ⟨x, hx, h⟩
    obtain ⟨i, hi, rfl⟩ := List.getElem_of_mem hx
    exact ⟨i, List.mem_range.2 hi, by rw [List.getD_eq_getElem?_getD, List.getElem?_eq_getElem hi]; exact h⟩
set_option maxRecDepth 100000 in
set_option maxHeartbeats 1000000 in
theorem indexStr (g : Nat) (lb : Array Value) (eg : ∀ args w, (callFunc g args).run Tryd.prog w = .ok (.enter g args) w) (v : Value) (l : List Bytes) (w : World) (q : Nat → Bool) (hl : StrsAt w.heap.size w v l)
    (hcall : ∀ i, i < l.length → Calls Tryd.prog g (#[.string (bs (l.getD i []))] ++ lb) w fun e w' => e = .returned (.bool (q i)) ∧ w = w') :
    Calls Tryd.prog 73 #[v, .func (.func g) #[] lb] w fun e w' => ∃ r, e = .returned (.int .i64 r) ∧ FirstAt q l.length r ∧ w = w' := by
  obtain ⟨a, c, rfl, hlc, hcm⟩ := hl.shape
  unfold maxLen at hcm
  have HL := Lib.hid hl
  have HA := Lib.hid hcall
  clear hl hcall
  generalize hn : l.length = n at *
  have Hn := Lib.hid hn
  clear hn
  go_enter Tryd.func73, Tryd.ntmps73
  go_wp2
  go_loop [8] (fun s => ∃ k : Nat, k ≤ n ∧ s = .int .i64 k ∧ Hid (∀ j, j < k → q j = false)) (fun s => n - (intOf s).toNat)
  case atStart => exact ⟨0, Nat.zero_le _, rfl, fun j hj => by omega⟩
  case round =>
    obtain ⟨k, hk, rfl, HQ⟩ := hrel
    by_cases hlt : k < n
    · obtain ⟨b, off, rfl, hb, c1⟩ := HL.out.at k (by rw [Hn.out]; exact hlt)
      have hc := HA.out k hlt
      have kk : (k : Int) < (n : Int) := by omega
      generalize l.getD k [] = z at c1 hc
      cases hq : q k
      all_goals
        rw [hq] at hc
        have HQ' := Lib.hid hq
        clear hq
        go_wp2_with (go_at_fn g; refine hc.mono ?_; rintro e w' ⟨rfl, rfl⟩)
      · go_round
        case rel =>
          refine ⟨k + 1, by omega, by go_num, (show _ from fun j hj => ?_)⟩
          by_cases e : j = k
          · subst e; exact HQ'.out
          · exact HQ.out j (by omega)
        case measure => simp [intOf]; omega
      · go_ret
        exact ⟨k, rfl, .inl ⟨k, hlt, HQ'.out, HQ.out, rfl⟩, rfl⟩
    · obtain rfl : k = n := by omega
      go_wp2
      go_ret
      exact ⟨-1, rfl, .inr ⟨HQ.out, rfl⟩, rfl⟩
theorem containsStr (g : Nat) (lb : Array Value) (eg : ∀ args w, (callFunc g args).run Tryd.prog w = .ok (.enter g args) w) (v : Value) (l : List Bytes) (w : World) (q : Nat → Bool) (hl : StrsAt w.heap.size w v l)
    (hcall : ∀ i, i < l.length → Calls Tryd.prog g (#[.string (bs (l.getD i []))] ++ lb) w fun e w' => e = .returned (.bool (q i)) ∧ w = w') :
    Calls Tryd.prog 62 #[v, .func (.func g) #[] lb] w fun e w' => e = .returned (.bool ((List.range l.length).any q)) ∧ w = w' := by
  have hI := indexStr g lb eg v l w q hl hcall
  clear hl hcall
  go_enter Tryd.func62, Tryd.ntmps62
  go_wp2_with (go_at_call 73; refine hI.mono ?_; rintro e w' ⟨r, rfl, hr, rfl⟩)
  go_ret
  exact ⟨by rw [← hr.any]; rfl, rfl⟩
theorem isDigest_any (s : ByteArray) (w : World) : Calls Tryd.prog 51 #[.string s] w fun e w' => e = .returned (.bool (decide (s.size = 32))) ∧ w = w' := by
  have h : (((s.size : Nat) : Int) == 32) = decide (s.size = 32) := by
    rw [Bool.eq_iff_iff]; simp; omega
  have H := Lib.hid h
  clear h
  go_enter Tryd.func51, Tryd.ntmps51
  go_wp2
  go_ret
  exact ⟨by rw [← H.out]; rfl, rfl⟩
theorem all1_any (s : ByteArray) (w : World) : Calls Tryd.prog 61 #[.string s] w fun e w' => e = .returned (.bool (!decide (s.size = 32))) ∧ w = w' := by
  go_enter Tryd.func61, Tryd.ntmps61
  cases h : decide (s.size = 32)
  all_goals
    have H := Lib.hid h
    clear h
    go_wp2_with (go_at_call 51; refine (isDigest_any s _).mono ?_; rintro e w' ⟨rfl, rfl⟩; rw [H.out])
    go_ret
    exact ⟨rfl, rfl⟩
theorem egAll (args : Array Value) (w : World) : (callFunc 61 args).run Tryd.prog w = .ok (.enter 61 args) w := enters_of Tryd.func61 (by kernel_rfl) rfl args w
theorem all_any (v : Value) (l : List Bytes) (w : World) (hl : StrsAt w.heap.size w v l) :
    Calls Tryd.prog 45 #[v] w fun e w' => e = .returned (.bool (digB l)) ∧ w = w' := by
  have hc := containsStr 61 #[] egAll v l w (fun i => !decide ((bs (l.getD i [])).size = 32)) hl (fun i _ => all1_any _ w)
  have he : ((List.range l.length).any fun i => !decide ((bs (l.getD i [])).size = 32)) = !digB l := by
    have := any_range (fun x : Bytes => !decide ((bs x).size = 32)) [] l
    rw [this]
    unfold digB
    rw [Bool.eq_iff_iff]
    simp [bs_size]
  rw [he] at hc
  obtain ⟨a, c, rfl, _⟩ := hl.shape
  clear he hl
  generalize digB l = d at *
  cases d
  all_goals
    go_enter Tryd.func45, Tryd.ntmps45
    go_wp2_with (go_at_call 62; refine hc.mono ?_; rintro e w' ⟨rfl, rfl⟩)
    go_ret
    exact ⟨rfl, rfl⟩
theorem take_none (a : Option Addr) (c : Nat) (w : World) : Calls Tryd.prog 46 #[.slice a 0 c] w fun e w' => e = .returned (.tuple #[.string (⟨#[]⟩ : ByteArray), .slice none 0 0, .bool false]) ∧ w = w' := by
  go_enter Tryd.func46, Tryd.ntmps46
  go_wp2
  go_ret3
  exact ⟨rfl, rfl⟩
theorem take_some (b off n c : Nat) (x : ByteArray) (w : World) (hn : 0 < n) (hnc : n ≤ c) (hc63 : c ≤ 9223372036854775807) (hx : w.cell? ⟨b, off + (n - 1), none⟩ = some (.string x)) :
    Calls Tryd.prog 46 #[.slice (some ⟨b, off, none⟩) n c] w fun e w' => e = .returned (.tuple #[.string x, .slice (some ⟨b, off, none⟩) (n - 1) c, .bool true]) ∧ ∃ q, w' = w.drewN q := by
  have d0 : (((n : Nat) : Int) == 0) = false := by simp; omega
  have w1 : IntKind.i64.wrap ((n : Int) - 1) = (n : Int) - 1 := IntWalk.i64_in _ (by omega)
  have z1 : 1 ≤ (n : Int) := by omega
  have y1 : 0 ≤ (n : Int) - 1 := by omega
  have l1 : (n : Int) - 1 < (n : Int) := by omega
  have t1 : ((n : Int) - 1).toNat = n - 1 := by omega
  have k1 : (n : Int) - 1 ≤ (c : Int) := by omega
  clear hn hnc
  go_enter Tryd.func46, Tryd.ntmps46
  go_wp2
  go_quiet (fail)
  go_wp2
  go_ret3
  exact ⟨rfl, _, rfl⟩
/-- The digest of the whole. -/
def joinB (x : Bytes × Bool) (p : Bytes) : Bytes := if x.2 then nodeB x.1 p else nodeB p x.1
theorem join_any (x p : Bytes) (f : Bool) (w : World) (hx : x.length ≤ 274877906944) (hp : p.length ≤ 274877906944) (hT : Rounds w) :
    Calls Tryd.prog 48 #[.agg #[.string (bs x), .bool f], .string (bs p)] w fun e w' => e = .returned (.string (bs (joinB (x, f) p))) ∧ Below w.heap.size w w' := by
  have hb0 : Below w.heap.size w (w.alloc (.cells #[.string (bs x), .bool f] 58)) := (Below.refl _ _).alloc (Nat.le_refl _) _
  have HB := Lib.hid hb0
  cases f
  · have HN := Lib.hid (node_any (bs p) (bs x) _ (by rw [bs_size]; exact hp) (by rw [bs_size]; exact hx) (hT.below hb0 (Nat.le_refl _)))
    clear hT hb0
    go_enter Tryd.func48, Tryd.ntmps48
    go_wp2_with (go_at_call 32; refine HN.out.mono ?_; rintro e w2 ⟨rfl, hb2⟩)
    go_ret
    exact ⟨rfl, HB.out.trans (hb2.mono HB.out.size)⟩
  · have HN := Lib.hid (node_any (bs x) (bs p) _ (by rw [bs_size]; exact hx) (by rw [bs_size]; exact hp) (hT.below hb0 (Nat.le_refl _)))
    clear hT hb0
    go_enter Tryd.func48, Tryd.ntmps48
    go_wp2_with (go_at_call 32; refine HN.out.mono ?_; rintro e w2 ⟨rfl, hb2⟩)
    go_ret
    exact ⟨rfl, HB.out.trans (hb2.mono HB.out.size)⟩
end Go.Proofs.YteemhemnkdgehaaDoor
