/- The contracts at theories that are valid, for the statements; plain facts on Core. -/
import Derived.Test.YtmihkbiihfhpoaaDoorJSaneW
namespace Go.Proofs.YtmihkbiihfhpoaaDoor
open Go.RowKit Go.Shelf

/-- A valid theory with its numbers as natural numbers. -/
structure Good (n d : Nat) (rs : List JRule) : Prop where
  n1 : 1 ≤ n
  n6 : n ≤ 6
  d1 : 1 ≤ d
  d8 : d ≤ 8
  len : rs.length ≤ 40
  valid : validB ⟨n, d, rs⟩ = true
theorem made_ex (s d : Int) (N : Nat) (f : Nat → Nat → Int) : ∃ n m rs, madeT s d N f = ⟨(n : Nat), (m : Nat), rs⟩ ∧ Good n m rs := by
  have h1 := madeSeen_bd s
  have h2 := madeDrawn_bd d
  have hv := madeT_valid s d N f
  have hl : (madeT s d N f).rules.length = min N 12 := madeRules_length _ _ _ _
  obtain ⟨n, hn⟩ := Int.eq_ofNat_of_zero_le (show 0 ≤ madeSeen s by omega)
  obtain ⟨m, hm⟩ := Int.eq_ofNat_of_zero_le (show 0 ≤ madeDrawn d by omega)
  have e : madeT s d N f = ⟨(n : Nat), (m : Nat), (madeT s d N f).rules⟩ := by
    rw [← hn, ← hm]
    rfl
  rw [e] at hv
  exact ⟨n, m, _, e, ⟨by omega, by omega, by omega, by omega, by omega, hv⟩⟩
theorem made_good {s d : Int} {N : Nat} {f : Nat → Nat → Int} {n m : Nat} {rs : List JRule} (he : madeT s d N f = ⟨(n : Nat), (m : Nat), rs⟩) (v : Value) (w : World) (hs : -9223372036854775808 ≤ s ∧ s ≤ 9223372036854775807) (hd : -9223372036854775808 ≤ d ∧ d ≤ 9223372036854775807) (hF : FourAt w.heap.size w v N f) :
    Calls Tryd.prog 11 #[.int .i64 s, .int .i64 d, v] w fun e w' => ∃ rv, e = .returned (thV n m rv) ∧ RulesAt w'.heap.size w' rv rs ∧ Below w.heap.size w w' := by
  have := made_any s d v N f w hs.1 hs.2 hd.1 hd.2 hF
  rw [he] at this
  exact this
theorem Good.set {n d : Nat} {rs : List JRule} (h : Good n d rs) {S : Nat} (hS : S < 2 ^ n) : setB ⟨n, d, rs⟩ S = true := by
  unfold setB
  rw [h.valid, Bool.true_and]
  simp only [inB, Bool.and_eq_true, decide_eq_true_eq, Int.toNat_natCast]
  have e : ((2 : Int) ^ n) = ((2 ^ n : Nat) : Int) := by push_cast; rfl
  rw [e]
  omega
theorem Good.thing {n d : Nat} {rs : List JRule} (_h : Good n d rs) {K : Nat} (hK : K < n + d) : thingB ⟨n, d, rs⟩ K = true := by
  unfold thingB
  simp only [inB, Bool.and_eq_true, decide_eq_true_eq]
  omega
theorem Good.pow {n d : Nat} {rs : List JRule} (h : Good n d rs) : 2 ^ n ≤ 64 := Nat.le_trans (Nat.pow_le_pow_right (by omega) h.n6) (by decide)
theorem Good.rules {n d : Nat} {rs : List JRule} (h : Good n d rs) : GoodR rs := (valid_good h.valid).2.2.1
/-- Rules give conclusions. -/
theorem Good.gives {n d : Nat} {rs : List JRule} (h : Good n d rs) : ∀ r ∈ rs, n ≤ r.gives.toNat ∧ r.gives.toNat < n + d := by
  intro r hr
  have hb := (valid_good h.valid).2.2.2 r hr
  unfold badRule at hb
  simp only [Bool.or_eq_false_iff, decide_eq_false_iff_not, Bool.not_eq_false'] at hb
  have h4 := hb.2
  simp only [inB, Bool.and_eq_true, decide_eq_true_eq] at h4
  have h3 := hb.1.2
  omega
theorem Good.needs {n d : Nat} {rs : List JRule} (h : Good n d rs) : ∀ r ∈ rs, ∀ z ∈ r.needs, 0 ≤ z ∧ z < n + d := by
  intro r hr z hz
  have hb := (valid_good h.valid).2.2.2 r hr
  unfold badRule at hb
  simp only [Bool.or_eq_false_iff] at hb
  have h2 := hb.1.1.2
  unfold badNs at h2
  obtain ⟨i, hi, rfl⟩ := List.getElem_of_mem hz
  have := List.any_eq_false.1 h2 i (List.mem_range.2 hi)
  unfold badN at this
  simp only [Bool.or_eq_true, not_or, Bool.not_eq_true', Bool.not_eq_false] at this
  have h5 := this.2
  rw [List.getD_eq_getElem?_getD, List.getElem?_eq_getElem hi] at h5
  simp only [inB, Bool.and_eq_true, decide_eq_true_eq, Option.getD_some] at h5
  omega
/-- What holds is among the things. -/
theorem Good.hd_lt {n d : Nat} {rs : List JRule} (h : Good n d rs) {S : Nat} (hS : S < 2 ^ n) : hd rs S < 2 ^ (n + d) := by
  have hc : ClosedS rs (2 ^ (n + d) - 1) := fun r hr _ => by
    unfold bitB
    rw [all_bit]
    have := h.gives r hr
    exact decide_eq_true this.2
  have h1 := hd_least hc (sub_all (Nat.lt_of_lt_of_le hS (Nat.pow_le_pow_right (by omega) (by omega : n ≤ n + d))))
  have h2 := h1.le
  have h3 : 0 < 2 ^ (n + d) := Nat.pow_pos (by omega)
  omega
theorem Good.hd32 {n d : Nat} {rs : List JRule} (h : Good n d rs) {S : Nat} (hS : S < 2 ^ n) : hd rs S < 4294967296 := held_lt h.rules (by have := h.pow; omega)

/-- The world of a law: a theory in a box. -/
def LawI (w0 : World) (T : Nat) (n d : Nat) (rs : List JRule) (rv : Value) (W : World) : Prop := ThBox W T n d rv ∧ RulesAt W.heap.size W rv rs ∧ Tabs W ∧ Below w0.heap.size w0 W
section
variable {w0 W W' : World} {T n d : Nat} {rs : List JRule} {rv : Value}
theorem LawI.below (h : LawI w0 T n d rs rv W) (hb : Below W.heap.size W W') : LawI w0 T n d rs rv W' :=
  ⟨h.1.below hb h.1.lt, h.2.1.later hb (Nat.le_refl _), h.2.2.1.below hb h.2.2.1.2, h.2.2.2.trans (hb.mono h.2.2.2.size)⟩
theorem LawI.new {w w1 : World} (hT : Tabs w) (hb : Below w.heap.size w w1) (hR : RulesAt w1.heap.size w1 rv rs) : LawI w w1.heap.size n d rs rv (w1.alloc (.cells #[.int .i64 n, .int .i64 d, rv] 25)) :=
  ⟨ThBox.new _ _ _ _, hR.later ((Below.refl _ _).alloc (Nat.le_refl _) _) (Nat.le_refl _), (hT.below hb hT.2).below ((Below.refl w1.heap.size w1).alloc (Nat.le_refl _) _) (Nat.le_trans hT.2 hb.size), hb.alloc hb.size _⟩
theorem g_holds (G : Good n d rs) (h : LawI w0 T n d rs rv W) {S : Nat} (hS : S < 2 ^ n) : Calls Tryd.prog 17 #[thV n d rv, .int .i64 S] W (RetL W (.int .i64 0) (listB (hd rs S))) := by
  refine (holds_any ⟨n, d, rs⟩ rv S W h.2.1 h.2.2.1).mono ?_
  rintro e w' ⟨v, rfl, ho, hb⟩
  refine ⟨v, by rw [G.set hS]; rfl, ?_, hb⟩
  have : holdsL ⟨n, d, rs⟩ S = listB (hd rs S) := by unfold holdsL; rw [G.set hS, Int.toNat_natCast]; rfl
  rw [← this]
  exact ho.ints
theorem g_supp (G : Good n d rs) (h : LawI w0 T n d rs rv W) {K : Nat} (hK : K < n + d) : Calls Tryd.prog 28 #[thV n d rv, .int .i64 K] W (RetL W (.int .i64 0) (leastI n (suppP rs K))) := by
  have hb : suppB ⟨n, d, rs⟩ K = true := by unfold suppB; rw [G.valid, G.thing hK]; rfl
  refine (supports_any ⟨n, d, rs⟩ rv K W h.2.1).mono ?_
  rintro e w' ⟨v, rfl, ho, hb'⟩
  refine ⟨v, by rw [hb]; rfl, ?_, hb'⟩
  have : suppL ⟨n, d, rs⟩ K = leastI n (suppP rs K) := by unfold suppL; rw [hb]; simp
  rw [← this]
  exact ho.ints
theorem g_cuts (G : Good n d rs) (h : LawI w0 T n d rs rv W) {K : Nat} (hK : K < n + d) : Calls Tryd.prog 30 #[thV n d rv, .int .i64 K] W (RetL W (.int .i64 0) (leastI n (cutP rs n K))) := by
  have hb : suppB ⟨n, d, rs⟩ K = true := by unfold suppB; rw [G.valid, G.thing hK]; rfl
  refine (cuts_any ⟨n, d, rs⟩ rv K W h.2.1).mono ?_
  rintro e w' ⟨v, rfl, ho, hb'⟩
  refine ⟨v, by rw [hb]; rfl, ?_, hb'⟩
  have : cutL ⟨n, d, rs⟩ K = leastI n (cutP rs n K) := by unfold cutL; rw [hb]; simp
  rw [← this]
  exact ho.ints
theorem g_ret (G : Good n d rs) (h : LawI w0 T n d rs rv W) {S o : Nat} (hS : S < 2 ^ n) (ho : o < n) : Calls Tryd.prog 22 #[thV n d rv, .int .i64 S, .int .i64 o] W (RetL W (.int .i64 0) (listB (sdiff (hd rs S) (hd rs (sdiff S (2 ^ o)))))) := by
  have hb : retB ⟨n, d, rs⟩ S o = true := by
    unfold retB
    rw [G.set hS, Bool.true_and]
    simp only [inB, Bool.and_eq_true, decide_eq_true_eq]
    omega
  refine (retract_any ⟨n, d, rs⟩ rv S o W h.2.1 h.2.2.1).mono ?_
  rintro e w' ⟨v, rfl, hw, hb'⟩
  refine ⟨v, by rw [hb]; rfl, ?_, hb'⟩
  have : retractL ⟨n, d, rs⟩ S o = listB (sdiff (hd rs S) (hd rs (sdiff S (2 ^ o)))) := by unfold retractL; rw [hb, Int.toNat_natCast, Int.toNat_natCast]; rfl
  rw [← this]
  exact hw.ints
theorem Good.why (G : Good n d rs) {S K : Nat} (hS : S < 2 ^ n) (hK : K < n + d) : whyB ⟨n, d, rs⟩ S K = (hd rs S).testBit K := by
  unfold whyB
  rw [G.set hS, G.thing hK, Int.toNat_natCast]
  simp [bitB]
theorem g_why (G : Good n d rs) (h : LawI w0 T n d rs rv W) {S K : Nat} (hS : S < 2 ^ n) (hK : K < n + d) : Calls Tryd.prog 24 #[thV n d rv, .int .i64 S, .int .i64 K] W (RetL W (.bool ((hd rs S).testBit K)) (whyL ⟨n, d, rs⟩ S K)) := by
  have := why_any ⟨n, d, rs⟩ rv S K W h.2.1
  rw [G.why hS hK] at this
  exact this
theorem Good.check (G : Good n d rs) {S K : Nat} (hS : S < 2 ^ n) (hK : K < n + d) (l : List Int) : checkB ⟨n, d, rs⟩ S K l = derivesB n rs S K l := by
  unfold checkB
  rw [G.set hS, G.thing hK, Int.toNat_natCast]
  rfl
theorem g_check (G : Good n d rs) (h : LawI w0 T n d rs rv W) {S K : Nat} (hS : S < 2 ^ n) (hK : K < n + d) {v : Value} {l : List Int} (hv : IntsAt W.heap.size W v l) : Calls Tryd.prog 26 #[thV n d rv, .int .i64 S, .int .i64 K, v] W (RetB W (derivesB n rs S K l)) := by
  have := check_any ⟨n, d, rs⟩ rv v S K l W h.2.1 hv
  rw [G.check hS hK] at this
  exact this
theorem g_core (G : Good n d rs) (h : LawI w0 T n d rs rv W) {S K : Nat} (hS : S < 2 ^ n) (hK : K < n + d) : Calls Tryd.prog 20 #[thV n d rv, .int .i64 S, .int .i64 K] W fun e w' => e = .returned (.tuple #[.int .i64 (max (coreI S (leastI n (suppP rs K))) 0), .bool (decide (0 ≤ coreI S (leastI n (suppP rs K))))]) ∧ Below W.heap.size W w' := by
  have hb : suppB ⟨n, d, rs⟩ K = true := by unfold suppB; rw [G.valid, G.thing hK]; rfl
  have := core_any ⟨n, d, rs⟩ rv S K W h.2.1
  have e : coreV ⟨n, d, rs⟩ S K = coreI S (leastI n (suppP rs K)) := by
    unfold coreV coreOk suppL
    rw [hb, G.set hS, Int.toNat_natCast]
    simp
  rw [e] at this
  exact this
end
theorem pick_nat (c : Int) {P : Nat} (h : 1 ≤ P) : ∃ S : Nat, pickZ c (P : Int) = S ∧ S < P := by
  have hb := pickZ_bd c P (by omega)
  obtain ⟨S, hS⟩ := Int.eq_ofNat_of_zero_le hb.1
  exact ⟨S, hS, by omega⟩
theorem pick_nat2 (c : Int) {a b : Nat} (h : 1 ≤ a) : ∃ S : Nat, pickZ c ((a : Int) + b) = S ∧ S < a + b := by
  have hb := pickZ_bd c ((a : Int) + b) (by omega)
  obtain ⟨S, hS⟩ := Int.eq_ofNat_of_zero_le hb.1
  exact ⟨S, hS, by omega⟩
/-- The set and the power of a law. -/
theorem Good.pick {n d : Nat} {rs : List JRule} (h : Good n d rs) (c : Int) : ∃ S : Nat, pickZ c ((2 ^ n : Nat) : Int) = S ∧ S < 2 ^ n := pick_nat c (Nat.pow_pos (by omega))
theorem Good.p32 {n d : Nat} {rs : List JRule} (h : Good n d rs) : 2 ^ n ≤ 4294967296 := Nat.le_trans h.pow (by decide)
theorem Good.p1 {n d : Nat} {rs : List JRule} (_h : Good n d rs) : 1 ≤ 2 ^ n := Nat.pow_pos (by decide)
theorem g_pick {c : Int} {P S : Nat} (hc : -9223372036854775808 ≤ c ∧ c ≤ 9223372036854775807) (h1 : 1 ≤ P) (h2 : P ≤ 4294967296) (hS : pickZ c (P : Int) = S) (W : World) : Calls Tryd.prog 16 #[.int .i64 c, .int .i64 P] W fun e w' => e = .returned (.int .i64 S) ∧ W = w' := by
  have := pick_any c P W hc.1 hc.2 (by omega) (by omega)
  rw [hS] at this
  exact this
theorem g_pick2 {c : Int} {a b S : Nat} (hc : -9223372036854775808 ≤ c ∧ c ≤ 9223372036854775807) (h1 : 1 ≤ a) (h2 : a ≤ 100) (h3 : b ≤ 100) (hS : pickZ c ((a : Int) + b) = S) (W : World) : Calls Tryd.prog 16 #[.int .i64 c, .int .i64 ((a : Int) + b)] W fun e w' => e = .returned (.int .i64 S) ∧ W = w' := by
  have := pick_any c ((a : Int) + b) W hc.1 hc.2 (by omega) (by omega)
  rw [hS] at this
  exact this
theorem sdiff_zero (x S : Nat) : sdiff x S = 0 ↔ SubS x S := by
  constructor
  · intro h i hi
    have : (sdiff x S).testBit i = false := by rw [h]; exact Nat.zero_testBit i
    rw [testBit_sdiff, hi, Bool.true_and, Bool.not_eq_false'] at this
    exact this
  · intro h
    apply Nat.eq_of_testBit_eq
    intro i
    rw [testBit_sdiff, Nat.zero_testBit]
    cases hx : x.testBit i
    · rfl
    · rw [h i hx]; rfl
theorem core_fold (S : Nat) : ∀ (l : List Int) (b : Int), (∀ z ∈ l, 0 ≤ z) → (l.foldl (coreStep S) b = b ∧ (b < 0 → ∀ z ∈ l, ¬ SubS z.toNat S)) ∨ (l.foldl (coreStep S) b ∈ l ∧ SubS (l.foldl (coreStep S) b).toNat S)
  | [], b, _ => .inl ⟨rfl, fun _ z hz => by simp at hz⟩
  | x :: l, b, hl => by
    have ih := core_fold S l (coreStep S b x) (fun z hz => hl z (by simp [hz]))
    rw [List.foldl_cons]
    cases ht : coreTest S b x
    · have e : coreStep S b x = b := by unfold coreStep; rw [ht]; rfl
      rw [e] at ih ⊢
      rcases ih with ⟨h1, h2⟩ | ⟨h1, h2⟩
      · refine .inl ⟨h1, fun hb z hz => ?_⟩
        rcases List.mem_cons.1 hz with rfl | hz
        · intro hs
          unfold coreTest at ht
          rw [(sdiff_zero _ _).2 hs] at ht
          simp [hb] at ht
        · exact h2 hb z hz
      · exact .inr ⟨by simp [h1], h2⟩
    · have e : coreStep S b x = x := by unfold coreStep; rw [ht]; rfl
      rw [e] at ih ⊢
      rcases ih with ⟨h1, _⟩ | ⟨h1, h2⟩
      · right
        rw [h1]
        refine ⟨by simp, ?_⟩
        unfold coreTest at ht
        rw [Bool.and_eq_true, beq_iff_eq] at ht
        exact (sdiff_zero _ _).1 ht.1
      · exact .inr ⟨by simp [h1], h2⟩
/-- Core's choice is a support in the set, if there is one. -/
theorem core_facts (S : Nat) (l : List Int) (hl : ∀ z ∈ l, 0 ≤ z) : (decide (0 ≤ coreI S l) = hasOne S l) ∧ (0 ≤ coreI S l → coreI S l ∈ l ∧ SubS (coreI S l).toNat S) := by
  unfold coreI
  rcases core_fold S l (-1) hl with ⟨h1, h2⟩ | ⟨h1, h2⟩
  · rw [h1]
    refine ⟨?_, fun h => by omega⟩
    unfold hasOne
    rw [show (l.any fun z => subB z.toNat S) = false from List.any_eq_false.2 fun z hz => by rw [subB_iff]; exact h2 (by omega) z hz]
    rfl
  · have h0 := hl _ h1
    refine ⟨?_, fun _ => ⟨h1, h2⟩⟩
    unfold hasOne
    rw [any_of_mem (p := fun z => subB z.toNat S) h1 ((subB_iff _ _).2 h2)]
    simpa using h0
theorem leastI_mem {n : Nat} {p : Nat → Bool} {z : Int} : z ∈ leastI n p ↔ ∃ m : Nat, z = m ∧ m ∈ leastN n p := by
  unfold leastI
  rw [List.mem_map]
  constructor
  · rintro ⟨m, hm, rfl⟩; exact ⟨m, rfl, hm⟩
  · rintro ⟨m, rfl, hm⟩; exact ⟨m, hm, rfl⟩
theorem leastI_sorted (n : Nat) (p : Nat → Bool) : (leastI n p).Pairwise (· < ·) := by
  unfold leastI leastN
  rw [List.pairwise_map]
  exact (List.Pairwise.filter _ List.pairwise_lt_range).imp fun h => by omega
theorem hasOne_least {n : Nat} (hn : 2 ^ n ≤ 4294967296) {p : Nat → Bool} (hp : MonoP p) {S : Nat} (hS : S < 2 ^ n) : hasOne S (leastI n p) = p S := by
  rw [Bool.eq_iff_iff, least_iff hp hn hS]
  unfold hasOne
  rw [List.any_eq_true]
  constructor
  · rintro ⟨z, hz, h⟩
    obtain ⟨m, rfl, hm⟩ := leastI_mem.1 hz
    exact ⟨m, hm, (subB_iff _ _).1 (by simpa using h)⟩
  · rintro ⟨m, hm, h⟩
    exact ⟨m, leastI_mem.2 ⟨m, rfl, hm⟩, by simpa using (subB_iff m S).2 h⟩
theorem hasZ_list (H K : Nat) (h : H < 4294967296) : hasZ (listB H) K = H.testBit K := by
  rw [Bool.eq_iff_iff, hasZ_iff, mem_listB H h]
  simp
end Go.Proofs.YtmihkbiihfhpoaaDoor
