/- slices.IndexFunc and slices.ContainsFunc with a closure of which an invariant is known. -/
import Derived.Test.YtmihkbiihfhpoaaDoorJMem
namespace Go.Proofs.YtmihkbiihfhpoaaDoor
open Go.RowKit Go.Shelf

set_option maxRecDepth 100000 in
set_option maxHeartbeats 1000000 in
theorem indexFunc_int (g : Nat) (lb : Array Value) (eg : ∀ args w, (callFunc g args).run Tryd.prog w = .ok (.enter g args) w) (v : Value) (l : List Int) (w : World) (Inv : Nat → World → Prop) (q : Nat → Bool)
    (B : Nat) (hl : IntsAt B w v l) (h0 : Inv 0 w) (hB : ∀ i W, Inv i W → Below B w W)
    (hcall : ∀ i W, i < l.length → Inv i W → Calls Tryd.prog g (#[.int .i64 (l.getD i 0)] ++ lb) W fun e w' => e = .returned (.bool (q i)) ∧ Inv (i + 1) w') :
    Calls Tryd.prog 55 #[v, .func (.func g) #[] lb] w fun e w' => ∃ r, e = .returned (.int .i64 r) ∧ IsFst q l.length r ∧ ∃ i, Inv i w' := by
  obtain ⟨a, c, rfl, hlc, hcm, hcells⟩ := hl
  unfold maxLen at hcm
  by_cases hn : 0 < l.length
  · obtain ⟨b, off, rfl, hb, hc⟩ := hcells hn
    clear hcells
    generalize hlen : l.length = n at *
    clear hlen
    have HC := Lib.hid hc
    have HB := Lib.hid hB
    have HA := Lib.hid hcall
    clear hc hB hcall
    go_enter Tryd.func55, Tryd.ntmps55
    go_wp2
    go_loopw [8] (fun s wr => ∃ k : Nat, k ≤ n ∧ s = .int .i64 k ∧ Inv k wr ∧ Hid (∀ j, j < k → q j = false)) (fun s _ => n - (intOf s).toNat)
    case atStart => exact ⟨0, Nat.zero_le _, rfl, h0, fun j hj => by omega⟩
    case round =>
      obtain ⟨k, hk, rfl, hI, HQ⟩ := hrel
      by_cases hlt : k < n
      · have c1 := (HB.out k wr hI).cell (p := ⟨b, off + k, none⟩) hb
        rw [HC.out k hlt] at c1
        have hc := HA.out k wr hlt hI
        have kk : (k : Int) < (n : Int) := by omega
        generalize l.getD k 0 = z at c1 hc
        cases hq : q k
        all_goals
          rw [hq] at hc
          have HQ' := Lib.hid hq
          clear hq
          go_wp2_with (go_at_fn g; refine hc.mono ?_; rintro e w' ⟨rfl, hI'⟩)
        · go_round
          case rel =>
            refine ⟨k + 1, by omega, by go_num, hI', (show _ from fun j hj => ?_)⟩
            by_cases e : j = k
            · subst e; exact HQ'.out
            · exact HQ.out j (by omega)
          case measure => simp [intOf]; omega
        · go_ret
          exact ⟨k, rfl, .inl ⟨k, hlt, HQ'.out, HQ.out, rfl⟩, _, hI'⟩
      · obtain rfl : k = n := by omega
        go_wp2
        go_ret
        exact ⟨-1, rfl, .inr ⟨HQ.out, rfl⟩, _, hI⟩
  · have h0n : l.length = 0 := by omega
    rw [h0n]
    clear hcells
    go_enter Tryd.func55, Tryd.ntmps55
    go_wp2
    go_loopw [8] (fun s wr => s = .int .i64 0 ∧ Inv 0 wr) (fun _ _ => 0)
    case atStart => exact ⟨rfl, h0⟩
    case round =>
      obtain ⟨rfl, hI⟩ := hrel
      go_wp2
      go_ret
      exact ⟨-1, rfl, .inr ⟨fun j hj => by omega, rfl⟩, _, hI⟩
theorem contains_int (g : Nat) (lb : Array Value) (eg : ∀ args w, (callFunc g args).run Tryd.prog w = .ok (.enter g args) w) (v : Value) (l : List Int) (w : World) (Inv : Nat → World → Prop) (q : Nat → Bool)
    (B : Nat) (hl : IntsAt B w v l) (h0 : Inv 0 w) (hB : ∀ i W, Inv i W → Below B w W)
    (hcall : ∀ i W, i < l.length → Inv i W → Calls Tryd.prog g (#[.int .i64 (l.getD i 0)] ++ lb) W fun e w' => e = .returned (.bool (q i)) ∧ Inv (i + 1) w') :
    Calls Tryd.prog 44 #[v, .func (.func g) #[] lb] w fun e w' => e = .returned (.bool ((List.range l.length).any q)) ∧ ∃ i, Inv i w' := by
  have hI := indexFunc_int g lb eg v l w Inv q B hl h0 hB hcall
  clear hl h0 hB hcall
  go_enter Tryd.func44, Tryd.ntmps44
  go_wp2_with (go_at_call 55; refine hI.mono ?_; rintro e w' ⟨r, rfl, hr, hi⟩)
  go_ret
  exact ⟨by rw [← hr.any]; rfl, hi⟩
/-- The two cells of a rule. -/
def ruleV (nv : Value) (g : Int) : Value := .agg #[nv, .int .i64 g]

set_option maxRecDepth 100000 in
set_option maxHeartbeats 1000000 in
theorem indexFunc_rule (g : Nat) (lb : Array Value) (eg : ∀ args w, (callFunc g args).run Tryd.prog w = .ok (.enter g args) w) (v : Value) (l : List JRule) (w : World) (Inv : Nat → World → Prop) (q : Nat → Bool)
    (B : Nat) (hl : RulesAt B w v l) (h0 : Inv 0 w) (hB : ∀ i W, Inv i W → Below B w W)
    (hcall : ∀ i W nv, i < l.length → Inv i W → IntsAt B W nv (l.getD i default).needs → Calls Tryd.prog g (#[ruleV nv (l.getD i default).gives] ++ lb) W fun e w' => e = .returned (.bool (q i)) ∧ Inv (i + 1) w') :
    Calls Tryd.prog 64 #[v, .func (.func g) #[] lb] w fun e w' => ∃ r, e = .returned (.int .i64 r) ∧ IsFst q l.length r ∧ ∃ i, Inv i w' := by
  obtain ⟨a, c, rfl, hlc, hcm, hcells⟩ := hl
  unfold maxLen at hcm
  by_cases hn : 0 < l.length
  · obtain ⟨b, off, rfl, hb, hc⟩ := hcells hn
    clear hcells
    generalize hlen : l.length = n at *
    clear hlen
    have HC := Lib.hid hc
    have HB := Lib.hid hB
    have HA := Lib.hid hcall
    clear hc hB hcall
    go_enter Tryd.func64, Tryd.ntmps64
    go_wp2
    go_loopw [8] (fun s wr => ∃ k : Nat, k ≤ n ∧ s = .int .i64 k ∧ Inv k wr ∧ Hid (∀ j, j < k → q j = false)) (fun s _ => n - (intOf s).toNat)
    case atStart => exact ⟨0, Nat.zero_le _, rfl, h0, fun j hj => by omega⟩
    case round =>
      obtain ⟨k, hk, rfl, hI, HQ⟩ := hrel
      by_cases hlt : k < n
      · obtain ⟨nv, d1, d2, d3⟩ := HC.out k hlt
        have hbel := HB.out k wr hI
        have c1 := (hbel.cell (p := ⟨b, off + k * 2, none⟩) hb).trans d1
        have c2 := (hbel.cell (p := ⟨b, off + k * 2 + 1, none⟩) hb).trans d2
        have hc := HA.out k wr nv hlt hI (d3.below hbel (Nat.le_refl _))
        clear d1 d2 d3 hbel
        unfold ruleV at hc
        have kk : (k : Int) < (n : Int) := by omega
        generalize (l.getD k default).gives = z at c2 hc
        cases hq : q k
        all_goals
          rw [hq] at hc
          have HQ' := Lib.hid hq
          clear hq
          go_wp2_with (go_at_fn g; refine hc.mono ?_; rintro e w' ⟨rfl, hI'⟩)
        · go_round
          case rel =>
            refine ⟨k + 1, by omega, by go_num, hI', (show _ from fun j hj => ?_)⟩
            by_cases e : j = k
            · subst e; exact HQ'.out
            · exact HQ.out j (by omega)
          case measure => simp [intOf]; omega
        · go_ret
          exact ⟨k, rfl, .inl ⟨k, hlt, HQ'.out, HQ.out, rfl⟩, _, hI'⟩
      · obtain rfl : k = n := by omega
        go_wp2
        go_ret
        exact ⟨-1, rfl, .inr ⟨HQ.out, rfl⟩, _, hI⟩
  · have h0n : l.length = 0 := by omega
    rw [h0n]
    clear hcells
    go_enter Tryd.func64, Tryd.ntmps64
    go_wp2
    go_loopw [8] (fun s wr => s = .int .i64 0 ∧ Inv 0 wr) (fun _ _ => 0)
    case atStart => exact ⟨rfl, h0⟩
    case round =>
      obtain ⟨rfl, hI⟩ := hrel
      go_wp2
      go_ret
      exact ⟨-1, rfl, .inr ⟨fun j hj => by omega, rfl⟩, _, hI⟩
theorem contains_rule (g : Nat) (lb : Array Value) (eg : ∀ args w, (callFunc g args).run Tryd.prog w = .ok (.enter g args) w) (v : Value) (l : List JRule) (w : World) (Inv : Nat → World → Prop) (q : Nat → Bool)
    (B : Nat) (hl : RulesAt B w v l) (h0 : Inv 0 w) (hB : ∀ i W, Inv i W → Below B w W)
    (hcall : ∀ i W nv, i < l.length → Inv i W → IntsAt B W nv (l.getD i default).needs → Calls Tryd.prog g (#[ruleV nv (l.getD i default).gives] ++ lb) W fun e w' => e = .returned (.bool (q i)) ∧ Inv (i + 1) w') :
    Calls Tryd.prog 40 #[v, .func (.func g) #[] lb] w fun e w' => e = .returned (.bool ((List.range l.length).any q)) ∧ ∃ i, Inv i w' := by
  have hI := indexFunc_rule g lb eg v l w Inv q B hl h0 hB hcall
  clear hl h0 hB hcall
  go_enter Tryd.func40, Tryd.ntmps40
  go_wp2_with (go_at_call 64; refine hI.mono ?_; rintro e w' ⟨r, rfl, hr, hi⟩)
  go_ret
  exact ⟨by rw [← hr.any]; rfl, hi⟩
end Go.Proofs.YtmihkbiihfhpoaaDoor
