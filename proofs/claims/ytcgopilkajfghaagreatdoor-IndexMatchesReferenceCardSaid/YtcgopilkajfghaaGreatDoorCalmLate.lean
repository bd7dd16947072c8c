/- A drawn region in which an extract may come late: it may be taken early. -/
import Derived.Test.YtcgopilkajfghaaGreatDoorMCalm
import Derived.Deep.RegionHeld3
set_option linter.unusedVariables false
set_option linter.unusedSimpArgs false
namespace Go.Proofs.YtcgopilkajfghaaGreatDoor
open Go

section
variable {P : Program} {Q : Exit → Act → World → Prop}
theorem act_put_comm (a : Act) {x y : Option Tmp} {u v : Value} (h : ∀ d, x = some d → y ≠ some d) : (a.put x u).put y v = (a.put y v).put x u := by
  cases x with
  | none => rfl
  | some d =>
    cases y with
    | none => rfl
    | some e =>
      have hne : d ≠ e := fun hh => h d rfl (by rw [hh])
      simp only [Act.put, Act.mk.injEq, and_true]
      exact Array.setIfInBounds_comm _ _ hne
theorem extract_run {o : Oper} {t : Operand} {ix : Nat} (ho : o.op = .extract t ix) {a : Act} {w : World} {K : Act → World → Prop} (hQ : ∀ c a w, ¬ Q (.panic c) a w) (h : o.wp P a w K Q ∨ (o.asks P a w ∧ LetsOut Q)) :
    ∃ v, (∀ w', (execOp a.eval o).run P w' = .ok (.value v) w') ∧ K (a.put o.dst v) w := by
  cases hv : a.eval t with
  | tuple xs =>
    cases hx : xs[ix]? with
    | some v =>
      have hr : ∀ w', (execOp a.eval o).run P w' = .ok (.value v) w' := fun w' => by simp [execOp, ho, hv, hx, Instr.extract]
      refine ⟨v, hr, ?_⟩
      rcases h with h | ⟨h, _⟩
      · unfold Oper.wp at h
        rw [hr w] at h
        exact h
      · unfold Oper.asks at h
        simp [execOp, ho, hv, hx, Instr.extract] at h
        exact absurd (show noRoomEvent ∈ (#[] : Array Event) from h) (by simp)
    | none =>
      exfalso
      rcases h with h | ⟨h, _⟩
      · simp [Oper.wp, execOp, ho, hv, hx, Instr.extract, Oper.upon] at h
      · simp [Oper.asks, execOp, ho, hv, hx, Instr.extract] at h
        exact absurd (show noRoomEvent ∈ (#[] : Array Event) from h) (by simp)
  | _ =>
    exfalso
    rcases h with h | ⟨h, _⟩
    · simp [Oper.wp, execOp, ho, hv, Instr.extract, Oper.upon] at h
    · simp [Oper.asks, execOp, ho, hv, Instr.extract] at h
      exact absurd (show noRoomEvent ∈ (#[] : Array Event) from h) (by simp)
/-- The same operation at two frames that differ in a temporary that it does not look at. -/
theorem oper_wp_shift {o : Oper} {a b : Act} {w : World} {K K' : Act → World → Prop} (hQ : ∀ c a w, ¬ Q (.panic c) a w) (hd : a.defers = b.defers) (he : execOp b.eval o = execOp a.eval o)
    (hK : ∀ ds s w', K ({ b with defers := ds }.put o.dst s) w' → K' ({ a with defers := ds }.put o.dst s) w') (h : o.wp P b w K Q ∨ (o.asks P b w ∧ LetsOut Q)) : o.wp P a w K' Q ∨ (o.asks P a w ∧ LetsOut Q) := by
  have hK0 : ∀ s w', K (b.put o.dst s) w' → K' (a.put o.dst s) w' := fun s w' hk => by
    have := hK b.defers s w' hk
    rw [← hd] at this
    exact this
  rcases h with h | ⟨h1, h2⟩
  · refine .inl ?_
    unfold Oper.wp at *
    rw [he] at h
    generalize (execOp a.eval o).run P w = r at *
    cases r with
    | ok n w' =>
      cases n <;> simp only [Oper.upon] at h ⊢
      case value s => exact hK0 _ _ h
      case skip => exact hK0 _ _ h
      case defer d => rw [hd]; exact hK _ _ _ h
      case enter f args =>
        refine Calls.mono h fun e w'' hh => ?_
        cases e with
        | returned s => exact hK0 _ _ hh
        | panicked c => exact absurd hh (hQ _ _ _)
        | outgrown => exact hh
      case row row args => exact Rows.mono h fun s w'' hh => hK0 _ _ hh
    | halt x w' =>
      cases x <;> simp only [Oper.upon] at h ⊢
      exact absurd h (hQ _ _ _)
  · refine .inr ⟨?_, h2⟩
    unfold Oper.asks at h1 ⊢
    rw [he] at h1
    exact h1
variable {ops ops' : Array Oper}
/-- An operation that leaves the world alone, and that is ready, may be taken first. -/
theorem wpAny_early {j : Nat} {oj : Oper} (hj : ops[j]? = some oj) (hg : oj.guard = none) (hQ : ∀ c a w, ¬ Q (.panic c) a w) (hsel : ∀ (i : Nat) (o : Oper) (cs : Array SelectCase) (b : Bool), ops[i]? = some o → o.op ≠ .select cs b)
    (hap : ∀ i oi, ops[i]? = some oi → i ≠ j → onB ops i j = true ∨ onB ops j i = true ∨ (oj.apart ops oi = true ∧ oi.apart ops oj = true)) :
    ∀ (n : Nat) (listed : Array Bool) (a : Act) (w : World) (v : Value), listed.size = ops.size → listed.getD j true = false → (∀ e ∈ oj.after, Region.binds .any e = true → listed.getD e.on false = true) → (∀ w', (execOp a.eval oj).run P w' = .ok (.value v) w') →
      wpAny P .any ops Q n (listed.setIfInBounds j true) (a.put oj.dst v) w → wpAny P .any ops Q (n + 1) listed a w := by
  intro n
  induction n with
  | zero =>
    intro listed a w v hsz hun hdep hv h
    have hjr : j ∈ Region.ready .any ops listed := mem_ready.2 ⟨hun, oj, hj, hdep⟩
    refine ⟨fun h0 => absurd hjr (by rw [h0]; simp), fun i hi => ?_⟩
    by_cases hij : i = j
    · subst hij
      unfold wpOp
      simp only [hj]
      rw [if_pos (by simp [Region.wanted, hg])]
      refine .inl ?_
      unfold Oper.wp
      rw [hv w]
      exact h
    · exfalso
      obtain ⟨h1, oi, h2, h3⟩ := mem_ready.1 hi
      have : i ∈ Region.ready .any ops (listed.setIfInBounds j true) := mem_ready.2 ⟨by rw [getD_set_ne true (Ne.symm hij)]; exact h1, oi, h2, fun e he hb => by
        by_cases hej : e.on = j
        · have hjs : j < listed.size := by rw [hsz]; exact (Array.getElem?_eq_some_iff.1 hj).1
          rw [hej]; simp [hjs]
        · rw [getD_set_ne false (Ne.symm hej)]; exact h3 e he hb⟩
      rw [h.1] at this
      simp at this
  | succ n ih =>
    intro listed a w v hsz hun hdep hv h
    have hjs : j < listed.size := by rw [hsz]; exact (Array.getElem?_eq_some_iff.1 hj).1
    have hjr : j ∈ Region.ready .any ops listed := mem_ready.2 ⟨hun, oj, hj, hdep⟩
    refine ⟨fun h0 => absurd hjr (by rw [h0]; simp), fun i hi => ?_⟩
    by_cases hij : i = j
    · subst hij
      unfold wpOp
      simp only [hj]
      rw [if_pos (by simp [Region.wanted, hg])]
      refine .inl ?_
      unfold Oper.wp
      rw [hv w]
      exact h
    · obtain ⟨h1, oi, h2, h3⟩ := mem_ready.1 hi
      have hir : i ∈ Region.ready .any ops (listed.setIfInBounds j true) := mem_ready.2 ⟨by rw [getD_set_ne true (Ne.symm hij)]; exact h1, oi, h2, fun e he hb => by
        by_cases hej : e.on = j
        · rw [hej]; simp [hjs]
        · rw [getD_set_ne false (Ne.symm hej)]; exact h3 e he hb⟩
      have hnij : onB ops i j = false := onB_false h2 fun e he hb hej => by
        have := h3 e he hb
        rw [hej, listed_getD hjs false true, hun] at this
        cases this
      have hnji : onB ops j i = false := onB_false hj fun e he hb hei => by
        have his : i < listed.size := by rw [hsz]; exact (Array.getElem?_eq_some_iff.1 h2).1
        have := hdep e he hb
        rw [hei, listed_getD his false true, h1] at this
        cases this
      obtain ⟨ap1, ap2⟩ : oj.apart ops oi = true ∧ oi.apart ops oj = true := by
        rcases hap i oi h2 hij with h | h | h
        · rw [hnij] at h; cases h
        · rw [hnji] at h; cases h
        · exact h
      obtain ⟨_, hdst, _⟩ := Oper.apart_spec ap1
      have hc := h.2 i hir
      unfold wpOp at hc ⊢
      simp only [h2] at hc ⊢
      obtain ⟨e1, e2⟩ := found_put (a := a) (u := v) (fun cs b => hsel i oi cs b h2) ap1
      have hlc : (listed.setIfInBounds j true).setIfInBounds i true = (listed.setIfInBounds i true).setIfInBounds j true := Array.setIfInBounds_comm _ _ (Ne.symm hij)
      have next : ∀ (ds : List Deferred) (s : Value) (w' : World), wpAny P .any ops Q n ((listed.setIfInBounds j true).setIfInBounds i true) (({ (a.put oj.dst v) with defers := ds }).put oi.dst s) w' → wpAny P .any ops Q (n + 1) (listed.setIfInBounds i true) (({ a with defers := ds }).put oi.dst s) w' := fun ds s w' hh => by
        have e3 : ({ (a.put oj.dst v) with defers := ds } : Act) = ({ a with defers := ds } : Act).put oj.dst v := by cases oj.dst <;> rfl
        rw [hlc, e3, act_put_comm _ hdst] at hh
        refine ih _ _ _ v (by simp [hsz]) (by rw [getD_set_ne true hij]; exact hun) (fun e he hb => ?_) (fun w2 => ?_) hh
        · by_cases hei : e.on = i
          · have his : i < listed.size := by rw [hsz]; exact (Array.getElem?_eq_some_iff.1 h2).1
            rw [hei]; simp [his]
          · rw [getD_set_ne false (Ne.symm hei)]; exact hdep e he hb
        · rw [(found_put (a := { a with defers := ds }) (u := s) (fun cs b => hsel j oj cs b hj) ap2).1]
          exact hv w2
      have hdf : (a.put oj.dst v).defers = a.defers := by cases oj.dst <;> rfl
      rw [e2] at hc
      by_cases hw : Region.wanted oi (yielded ops a.tmps) = true
      · rw [if_pos hw] at hc ⊢
        exact oper_wp_shift hQ hdf.symm e1 next hc
      · rw [if_neg hw] at hc ⊢
        have := next (a.put oj.dst v).defers undef w hc
        rw [hdf] at this
        exact this
/-- ops' is ops, but that operation k waits for operation j. -/
structure Late (ops ops' : Array Oper) (k j : Nat) where
  size : ops'.size = ops.size
  ok : Oper
  oj : Oper
  hk : ops[k]? = some ok
  hj : ops[j]? = some oj
  hjk : j ≠ k
  hk' : ops'[k]? = some { ok with after := ok.after.push ⟨j, .data⟩ }
  other : ∀ i, i ≠ k → ops'[i]? = ops[i]?
theorem Late.yielded {k j : Nat} (h : Late ops ops' k j) (tmps : Array Value) : yielded ops' tmps = Go.yielded ops tmps := by
  funext i
  unfold Go.yielded
  by_cases hi : i = k
  · subst hi
    rw [h.hk, h.hk']
    rfl
  · rw [h.other i hi]
theorem wpAny_late {k j : Nat} (h : Late ops ops' k j) {t : Operand} {ix : Nat} (ho : h.oj.op = .extract t ix) (hg : h.oj.guard = none) (hQ : ∀ c a w, ¬ Q (.panic c) a w) (hsel : ∀ (i : Nat) (o : Oper) (cs : Array SelectCase) (b : Bool), ops[i]? = some o → o.op ≠ .select cs b)
    (hap : ∀ i oi, ops[i]? = some oi → i ≠ j → onB ops i j = true ∨ onB ops j i = true ∨ (h.oj.apart ops oi = true ∧ oi.apart ops h.oj = true))
    (hsub : ∀ e ∈ h.oj.after, Region.binds .any e = true → ∃ e' ∈ h.ok.after, Region.binds .any e' = true ∧ e'.on = e.on) :
    ∀ (n : Nat) (listed : Array Bool) (a : Act) (w : World), listed.size = ops.size → wpAny P .any ops' Q n listed a w → wpAny P .any ops Q n listed a w := by
  have hjs : j < ops.size := (Array.getElem?_eq_some_iff.1 h.hj).1
  have up : ∀ (listed : Array Bool) (i : Nat), listed.size = ops.size → i ∈ Region.ready .any ops listed → ¬ (i = k ∧ listed.getD j true = false) → i ∈ Region.ready .any ops' listed := fun listed i hsz hi hn => by
    obtain ⟨h1, oi, h2, h3⟩ := mem_ready.1 hi
    by_cases hik : i = k
    · subst hik
      rw [h.hk] at h2
      cases h2
      refine mem_ready.2 ⟨h1, _, h.hk', fun e he hb => ?_⟩
      rcases Array.mem_push.1 he with he | rfl
      · exact h3 e he hb
      · rw [listed_getD (by rw [hsz]; exact hjs) false true]
        cases hl : listed.getD j true
        · exact absurd ⟨rfl, hl⟩ hn
        · rfl
    · exact mem_ready.2 ⟨h1, oi, by rw [h.other i hik]; exact h2, h3⟩
  have jr : ∀ (listed : Array Bool), listed.size = ops.size → k ∈ Region.ready .any ops listed → listed.getD j true = false → (∀ e ∈ h.oj.after, Region.binds .any e = true → listed.getD e.on false = true) ∧ j ∈ Region.ready .any ops' listed := fun listed hsz hk hl => by
    obtain ⟨h1, o, h2, h3⟩ := mem_ready.1 hk
    rw [h.hk] at h2
    cases h2
    have hd : ∀ e ∈ h.oj.after, Region.binds .any e = true → listed.getD e.on false = true := fun e he hb => by
      obtain ⟨e', he', hb', hon⟩ := hsub e he hb
      rw [← hon]
      exact h3 e' he' hb'
    exact ⟨hd, mem_ready.2 ⟨hl, h.oj, by rw [h.other j h.hjk]; exact h.hj, hd⟩⟩
  intro n
  induction n with
  | zero =>
    intro listed a w hsz hh
    refine ⟨?_, hh.2⟩
    rw [List.eq_nil_iff_forall_not_mem]
    intro i hi
    by_cases hn : i = k ∧ listed.getD j true = false
    · obtain ⟨rfl, hl⟩ := hn
      have := (jr listed hsz hi hl).2
      rw [hh.1] at this
      simp at this
    · have := up listed i hsz hi hn
      rw [hh.1] at this
      simp at this
  | succ n ih =>
    intro listed a w hsz hh
    by_cases hkr : k ∈ Region.ready .any ops listed ∧ listed.getD j true = false
    · obtain ⟨hd, hr⟩ := jr listed hsz hkr.1 hkr.2
      have hc := hh.2 j hr
      unfold wpOp at hc
      rw [h.other j h.hjk] at hc
      simp only [h.hj] at hc
      rw [if_pos (by simp [Region.wanted, hg])] at hc
      obtain ⟨v, hv, hK⟩ := extract_run ho hQ hc
      exact wpAny_early h.hj hg hQ hsel hap n listed a w v hsz hkr.2 hd hv (ih _ _ _ (by simp [hsz]) hK)
    · have hup : ∀ i ∈ Region.ready .any ops listed, i ∈ Region.ready .any ops' listed := fun i hi => up listed i hsz hi (fun hn => hkr (by rw [← hn.1]; exact ⟨hi, hn.2⟩))
      refine ⟨fun h0 => ?_, fun i hi => ?_⟩
      · by_cases h1 : Region.ready .any ops' listed = []
        · exact hh.1 h1
        · exfalso
          obtain ⟨i, hi⟩ := List.exists_mem_of_ne_nil _ h1
          obtain ⟨g1, oi, g2, g3⟩ := mem_ready.1 hi
          have : i ∈ Region.ready .any ops listed := by
            by_cases hik : i = k
            · subst hik
              rw [h.hk'] at g2
              cases g2
              exact mem_ready.2 ⟨g1, _, h.hk, fun e he hb => g3 e (Array.mem_push.2 (.inl he)) hb⟩
            · rw [h.other i hik] at g2
              exact mem_ready.2 ⟨g1, oi, g2, g3⟩
          rw [h0] at this
          simp at this
      · have hc := hh.2 i (hup i hi)
        obtain ⟨g1, oi, g2, g3⟩ := mem_ready.1 hi
        unfold wpOp at hc ⊢
        by_cases hik : i = k
        · subst hik
          rw [h.hk'] at hc
          rw [h.hk]
          simp only at hc ⊢
          rw [h.yielded] at hc
          have e1 : Region.wanted { h.ok with after := h.ok.after.push ⟨j, .data⟩ } (Go.yielded ops a.tmps) = Region.wanted h.ok (Go.yielded ops a.tmps) := rfl
          rw [e1] at hc
          by_cases hw : Region.wanted h.ok (Go.yielded ops a.tmps) = true
          · rw [if_pos hw] at hc ⊢
            rcases hc with hc | hc
            · exact .inl (Oper.wp_mono (fun a w hh => ih _ _ _ (by simp [hsz]) hh) hc)
            · exact .inr hc
          · rw [if_neg hw] at hc ⊢
            exact ih _ _ _ (by simp [hsz]) hc
        · rw [h.other i hik, g2] at hc
          rw [g2]
          simp only at hc ⊢
          rw [h.yielded] at hc
          by_cases hw : Region.wanted oi (Go.yielded ops a.tmps) = true
          · rw [if_pos hw] at hc ⊢
            rcases hc with hc | hc
            · exact .inl (Oper.wp_mono (fun a w hh => ih _ _ _ (by simp [hsz]) hh) hc)
            · exact .inr hc
          · rw [if_neg hw] at hc ⊢
            exact ih _ _ _ (by simp [hsz]) hc
theorem wpAny_calm_list {Q : Exit → Act → World → Prop} {a : Act} {w : World} {l : List Oper} (pl : Plan)
    (hB : calmB l.toArray pl = true) (hsz : (pl.sp.all fun j => match (l[j]?).bind (·.dst) with | some d => decide (d < a.tmps.size) | none => true) = true) (hc0 : ∀ g, pl.c0 = some g → g < w.heap.size)
    (hst : ∀ k, pl.sp.contains k = true → ∀ v W W' c, pl.F k v W → W.grownBy W' c → Far l.toArray pl w k v W c → pl.F k v W')
    (h : wpCalmL P l.toArray w pl Q 0 l a) : wpAny P .any l.toArray Q l.toArray.size (Array.replicate l.toArray.size false) a { w with drawn := w.drawn + 1 } := by
  replace h := wpCalm_of_list l 0 a h
  have hok := calmOk_of hB
  refine wpAny_of_calm (w0 := w) (pl := pl) (Q := Q) hok hst hc0 _ _ _ _ _ (by simp) ⟨by simp, ?_, fun k o => ?_, fun k o hk hl => ?_, fun j hj hl => ?_, fun j hj hl => ?_, fun j _ hj _ hl => ?_, fun j o d hj ho hd => ?_, ⟨rfl, rfl, rfl, Nat.le_refl _, fun _ _ _ => rfl⟩, fun _ => ⟨rfl, rfl, rfl, Nat.le_refl _, fun _ _ _ => rfl⟩, fun _ => ⟨rfl, rfl, rfl, Nat.le_refl _, fun _ _ _ => rfl⟩⟩ h
  · rw [List.pairwise_map]
    rw [List.pairwise_iff_getElem]
    intro i j hi hj hij
    simpa using hij
  · rw [List.mem_map]
    constructor
    · rintro ⟨⟨o', k'⟩, hx, he⟩
      simp only [Prod.mk.injEq] at he
      obtain ⟨rfl, rfl⟩ := he
      have hx' := List.mem_zipIdx_iff_getElem?.1 hx
      simp only [] at hx'
      have hlt : k' < l.length := (List.getElem?_eq_some_iff.1 hx').1
      exact ⟨by simpa using hx', by simp [hlt]⟩
    · rintro ⟨h1, _⟩
      exact ⟨(o, k), List.mem_zipIdx_iff_getElem?.2 (by simpa using h1), rfl⟩
  · have hlt : k < l.toArray.size := (Array.getElem?_eq_some_iff.1 hk).1
    rw [none_listed hlt] at hl
    cases hl
  · have hlt := hok.lt j hj
    rw [none_listed hlt] at hl
    cases hl
  · have hlt := hok.lt j hj
    rw [none_listed hlt] at hl
    cases hl
  · have hlt := hok.lt j hj
    rw [none_listed hlt] at hl
    cases hl
  · have := List.all_eq_true.1 hsz j (by simpa using hj)
    simp only [List.getElem?_toArray] at ho
    rw [ho, Option.bind_some, hd] at this
    simpa using this


def lateL (k j : Nat) (l : List Oper) : List Oper := match l[k]? with
  | some o => l.set k { o with after := o.after.push ⟨j, .data⟩ }
  | none => l
def isExtract : Op → Bool
  | .extract _ _ => true
  | _ => false
def lateB (k j : Nat) (l : List Oper) : Bool := decide (j ≠ k) && Region.noSelect l.toArray && match l[k]?, l[j]? with
  | some ok, some oj => oj.guard.isNone && isExtract oj.op &&
    ((List.range l.length).all fun i => match l[i]? with
      | none => true
      | some oi => i == j || onB l.toArray i j || onB l.toArray j i || (oj.apart l.toArray oi && oi.apart l.toArray oj)) &&
    (oj.after.all fun e => !Region.binds .any e || ok.after.any fun e' => Region.binds .any e' && e'.on == e.on)
  | _, _ => false
theorem late_of {k j : Nat} {l : List Oper} {ok oj : Oper} (hjk : j ≠ k) (hk : l[k]? = some ok) (hj : l[j]? = some oj) : ∃ h : Late l.toArray (lateL k j l).toArray k j, h.ok = ok ∧ h.oj = oj := by
  have hlt := (List.getElem?_eq_some_iff.1 hk).1
  have e : lateL k j l = l.set k { ok with after := ok.after.push ⟨j, .data⟩ } := by unfold lateL; rw [hk]
  exact ⟨⟨by rw [e]; simp, ok, oj, by simpa using hk, by simpa using hj, hjk, by rw [e]; simp [hlt], fun i hi => by rw [e]; simp [List.getElem?_set_ne (Ne.symm hi)]⟩, rfl, rfl⟩
theorem NoPanic.not (Q : Exit → Act → World → Prop) : ∀ c a w, ¬ NoPanic Q (.panic c) a w := fun _ _ _ h => h
/-- ONE WALK FOR EVERY ORDER, where extract j need not come ahead of operation k. -/
theorem wp_region_calm_late {id : Nat} {Q : Exit → Act → World → Prop} {a : Act} {w : World} {l : List Oper} (k j : Nat) (pl : Plan)
    (hm : P.follows .mixedOrders = true) (hL : lateB k j l = true) (hB : calmB (lateL k j l).toArray pl = true) (hsz : (pl.sp.all fun j' => match ((lateL k j l)[j']?).bind (·.dst) with | some d => decide (d < a.tmps.size) | none => true) = true) (hc0 : ∀ g, pl.c0 = some g → g < w.heap.size)
    (hst : ∀ k', pl.sp.contains k' = true → ∀ v W W' c, pl.F k' v W → W.grownBy W' c → Far (lateL k j l).toArray pl w k' v W c → pl.F k' v W')
    (h : wpCalmL P (lateL k j l).toArray w pl (NoPanic Q) 0 (lateL k j l) a) : (Code.region id l.toArray true).wp P Q a w := by
  refine wp_region_noPanic (wp_region_any hm ?_)
  have h1 := wpAny_calm_list pl hB hsz hc0 hst h
  unfold lateB at hL
  rw [Bool.and_eq_true, Bool.and_eq_true] at hL
  obtain ⟨⟨h2, h3⟩, h4⟩ := hL
  have hjk : j ≠ k := by simpa using h2
  cases hk : l[k]? with
  | none => rw [hk] at h4; cases h4
  | some ok =>
    cases hj : l[j]? with
    | none => rw [hk, hj] at h4; cases h4
    | some oj =>
      rw [hk, hj] at h4
      simp only [Bool.and_eq_true] at h4
      obtain ⟨⟨⟨g1, g2⟩, g3⟩, g4⟩ := h4
      obtain ⟨hl, rfl, rfl⟩ := late_of hjk hk hj
      obtain ⟨t, ix, ho⟩ : ∃ t ix, hl.oj.op = .extract t ix := by
        cases hop : hl.oj.op <;> rw [hop] at g2 <;> first | exact ⟨_, _, rfl⟩ | cases g2
      rw [List.all_eq_true] at g3
      have hsz' := hl.size
      rw [hsz'] at h1
      refine wpAny_late hl ho (by simpa using g1) (NoPanic.not Q) (Region.noSelect_spec h3) (fun i oi hi hij => ?_) (fun e he hb => ?_) _ _ _ _ (by simp) h1
      · have hlt : i < l.length := by simpa using (Array.getElem?_eq_some_iff.1 hi).1
        have h5 := g3 i (List.mem_range.2 hlt)
        have hi' : l[i]? = some oi := by simpa using hi
        rw [hi'] at h5
        simp only [Bool.or_eq_true, Bool.and_eq_true, beq_iff_eq] at h5
        rcases h5 with ((h5 | h5) | h5) | h5
        · exact absurd h5 hij
        · exact .inl h5
        · exact .inr (.inl h5)
        · exact .inr (.inr h5)
      · have h5 := Array.all_eq_true_iff_forall_mem.1 g4 e he
        rw [hb] at h5
        simp only [Bool.not_true, Bool.false_or] at h5
        obtain ⟨e', he', hb'⟩ := Array.any_eq_true'.1 h5
        rw [Bool.and_eq_true, beq_iff_eq] at hb'
        exact ⟨e', he', hb'.1, hb'.2⟩
end
end Go.Proofs.YtcgopilkajfghaaGreatDoor
