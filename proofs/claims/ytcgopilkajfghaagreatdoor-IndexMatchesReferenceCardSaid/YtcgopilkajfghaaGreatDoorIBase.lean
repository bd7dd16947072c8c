/- A world in which some blocks may turn; steps of a script. -/
import Derived.Test.YtcgopilkajfghaaGreatDoorIEq
import Derived.Test.YtcgopilkajfghaaGreatDoorIRDrop
import Derived.Test.YtcgopilkajfghaaGreatDoorINew
set_option linter.unusedVariables false
set_option linter.unusedSimpArgs false
namespace Go.Proofs.YtcgopilkajfghaaGreatDoor
open Go.RowKit Go.Shelf

/-- The world has gone on from w0, where the blocks F may turn; these facts hold from now on. -/
def LiveT (F : Nat → Prop) (w0 : World) (Ps : List (World → Prop)) (W : World) : Prop :=
  Below w0.heap.size w0 W ∧ Rounds w0 ∧ (∀ k, F k → w0.heap.size ≤ k ∧ k < W.heap.size) ∧ ∀ P ∈ Ps, ∀ W', Turn F W W' → P W'
theorem LiveT.start {w : World} (hT : Rounds w) : LiveT (fun _ => False) w [] w := ⟨Below.refl _ _, hT, fun _ h => h.elim, fun _ h => by cases h⟩
theorem LiveT.step {F : Nat → Prop} {w0 W W' : World} {Ps : List (World → Prop)} (h : LiveT F w0 Ps W) (hb : Below W.heap.size W W') : LiveT F w0 Ps W' :=
  ⟨h.1.trans (hb.mono h.1.size), h.2.1, fun k hk => ⟨(h.2.2.1 k hk).1, Nat.lt_of_lt_of_le (h.2.2.1 k hk).2 hb.size⟩, fun P hP W2 h2 => h.2.2.2 P hP W2 ((Turn.of_below (S := F) hb).trans h2 fun j hj => .inl hj)⟩
theorem LiveT.turn {F F' S : Nat → Prop} {w0 W W' : World} {Ps : List (World → Prop)} (h : LiveT F w0 Ps W) (ht : Turn S W W') (hs : ∀ k, S k → F k) (hF : ∀ k, F' k → (F k ∨ W.heap.size ≤ k) ∧ k < W'.heap.size) : LiveT F' w0 Ps W' :=
  ⟨h.1.trans (ht.below h.1.size fun k hk => (h.2.2.1 k (hs k hk)).1), h.2.1, fun k hk => ⟨by
      rcases (hF k hk).1 with g | g
      · exact (h.2.2.1 k g).1
      · exact Nat.le_trans h.1.size g, (hF k hk).2⟩, fun P hP W2 h2 => h.2.2.2 P hP W2 ((ht.mono hs).trans h2 fun j hj => (hF j hj).1)⟩
theorem LiveT.add {F : Nat → Prop} {w0 W : World} {Ps : List (World → Prop)} {P : World → Prop} (h : LiveT F w0 Ps W) (hP : ∀ W', Turn F W W' → P W') : LiveT F w0 (P :: Ps) W :=
  ⟨h.1, h.2.1, h.2.2.1, fun Q hQ => by
    rcases List.mem_cons.1 hQ with rfl | hQ
    · exact hP
    · exact h.2.2.2 Q hQ⟩
theorem LiveT.sub {F : Nat → Prop} {w0 W : World} {Ps Qs : List (World → Prop)} (h : LiveT F w0 Ps W) (hs : ∀ Q ∈ Qs, Q ∈ Ps) : LiveT F w0 Qs W := ⟨h.1, h.2.1, h.2.2.1, fun Q hQ => h.2.2.2 Q (hs Q hQ)⟩
theorem LiveT.get {F : Nat → Prop} {w0 W : World} {Ps : List (World → Prop)} {P : World → Prop} (h : LiveT F w0 Ps W) (hP : P ∈ Ps) : P W := h.2.2.2 P hP W (Turn.refl _ _)
theorem LiveT.alloc {F : Nat → Prop} {w0 W : World} {Ps : List (World → Prop)} (h : LiveT F w0 Ps W) (o : Obj) : LiveT F w0 Ps (W.alloc o) := h.step ((Below.refl _ _).alloc (Nat.le_refl _) o)
theorem LiveT.below {F : Nat → Prop} {w0 W : World} {Ps : List (World → Prop)} (h : LiveT F w0 Ps W) : Below w0.heap.size w0 W := h.1
theorem LiveT.rounds {F : Nat → Prop} {w0 W : World} {Ps : List (World → Prop)} (h : LiveT F w0 Ps W) : Rounds W := h.2.1.below h.1 (Nat.le_refl _)
/-- From here on nothing turns. -/
theorem LiveT.live {F : Nat → Prop} {w0 W : World} {Ps : List (World → Prop)} (h : LiveT F w0 Ps W) : LiveP w0 Ps W := ⟨h.1, h.rounds, fun P hP W' hb => h.2.2.2 P hP W' (Turn.of_below hb)⟩
theorem RowsAt.turnO {α : Type} {K : SK α} {B : Nat} {w w' : World} {v : Value} {l : List α} {S : Nat → Prop} (h : RowsAt K B w v l) (ht : Turn S w w') (hB : B ≤ w.heap.size) (hs : ∀ g, v.ownBlock = some g → ¬ S g) : RowsAt K B w' v l := by
  obtain ⟨a, c, rfl, h1, h2, h3⟩ := h
  refine ⟨a, c, rfl, h1, h2, fun hp => ?_⟩
  obtain ⟨b, off, rfl, hlt, hc⟩ := h3 hp
  exact ⟨b, off, rfl, hlt, fun i x hi k u hu => (World.cell?_of_block (a := ⟨b, _, none⟩) (ht.block b (by omega) (hs b rfl))).trans (hc i x hi k u hu)⟩
theorem keep_idx {S : Nat → Prop} {X : Nat} {l : List ICard} {W : World} (h : IdxN S X l W) : ∀ W', Below W.heap.size W W' → IdxN S X l W' := fun _ hb => h.below hb
theorem IdxN.iok {S : Nat → Prop} {X : Nat} {l : List ICard} {W : World} (h : IdxN S X l W) : IOk l := by
  obtain ⟨_, _, _, _, h⟩ := h
  exact h.ok
theorem IdxN.lt {S : Nat → Prop} {X : Nat} {l : List ICard} {W : World} (h : IdxN S X l W) : ∀ k, S k → k < W.heap.size := by
  obtain ⟨_, _, _, _, h⟩ := h
  exact h.lt
theorem IdxN.sx {S : Nat → Prop} {X : Nat} {l : List ICard} {W : World} (h : IdxN S X l W) : S X := by
  obtain ⟨_, _, _, _, h⟩ := h
  exact h.sx
/-- A slice of arrays of M ints. -/
def ArrAt (M : Nat) (B : Nat) (w : World) (v : Value) (n : Nat) (f : Nat → Nat → Int) : Prop :=
  (∃ (a : Option Addr) (c : Nat), v = .slice a n c ∧ n ≤ c ∧ c ≤ maxLen ∧ (0 < n → ∃ b off, a = some ⟨b, off, none⟩ ∧ b < B ∧ ∀ i k, i < n → k < M → w.cell? ⟨b, off + i * M + k, none⟩ = some (.int .i64 (f i k)))) ∧
    ∀ i, i < n → inAll M (f i)
theorem ArrAt.below {M B B' : Nat} {w w' : World} {v : Value} {n : Nat} {f : Nat → Nat → Int} (h : ArrAt M B w v n f) (hb : Below B' w w') (hB : B ≤ B') : ArrAt M B w' v n f := by
  obtain ⟨⟨a, c, rfl, h1, h2, h3⟩, h4⟩ := h
  refine ⟨⟨a, c, rfl, h1, h2, fun hp => ?_⟩, h4⟩
  obtain ⟨b, off, rfl, hlt, hc⟩ := h3 hp
  exact ⟨b, off, rfl, hlt, fun i k hi hk => (hb.cell (p := ⟨b, off + i * M + k, none⟩) (Nat.lt_of_lt_of_le hlt hB)).trans (hc i k hi hk)⟩
theorem ArrAt.mono {M B B' : Nat} {w : World} {v : Value} {n : Nat} {f : Nat → Nat → Int} (h : ArrAt M B w v n f) (hB : B ≤ B') : ArrAt M B' w v n f := by
  obtain ⟨⟨a, c, rfl, h1, h2, h3⟩, h4⟩ := h
  refine ⟨⟨a, c, rfl, h1, h2, fun hp => ?_⟩, h4⟩
  obtain ⟨b, off, rfl, hlt, hc⟩ := h3 hp
  exact ⟨b, off, rfl, Nat.lt_of_lt_of_le hlt hB, hc⟩
theorem ArrAt.later {M : Nat} {w w' : World} {v : Value} {n : Nat} {f : Nat → Nat → Int} (h : ArrAt M w.heap.size w v n f) (hb : Below w.heap.size w w') : ArrAt M w'.heap.size w' v n f := (h.below hb (Nat.le_refl _)).mono hb.size
abbrev SixAt := ArrAt 6
abbrev FiveAt := ArrAt 5
theorem SixAt.row {B : Nat} {w : World} {a : Option Addr} {n c i : Nat} {f : Nat → Nat → Int} (h : SixAt B w (.slice a n c) n f) (hi : i < n) : ∃ b off, a = some ⟨b, off, none⟩ ∧ b < B ∧ (w.cell? ⟨b, off + i * 6, none⟩ = some (.int .i64 (f i 0)) ∧ w.cell? ⟨b, off + i * 6 + 1, none⟩ = some (.int .i64 (f i 1)) ∧ w.cell? ⟨b, off + i * 6 + 2, none⟩ = some (.int .i64 (f i 2)) ∧ w.cell? ⟨b, off + i * 6 + 3, none⟩ = some (.int .i64 (f i 3)) ∧ w.cell? ⟨b, off + i * 6 + 4, none⟩ = some (.int .i64 (f i 4)) ∧ w.cell? ⟨b, off + i * 6 + 5, none⟩ = some (.int .i64 (f i 5))) ∧ inAll 6 (f i) := by
  obtain ⟨⟨a', c', he, h1, h2, h3⟩, h4⟩ := h
  cases he
  obtain ⟨b, off, rfl, hlt, hc⟩ := h3 (by omega)
  exact ⟨b, off, rfl, hlt, ⟨hc i 0 hi (by omega), hc i 1 hi (by omega), hc i 2 hi (by omega), hc i 3 hi (by omega), hc i 4 hi (by omega), hc i 5 hi (by omega)⟩, h4 i hi⟩
theorem FiveAt.row {B : Nat} {w : World} {a : Option Addr} {n c i : Nat} {f : Nat → Nat → Int} (h : FiveAt B w (.slice a n c) n f) (hi : i < n) : ∃ b off, a = some ⟨b, off, none⟩ ∧ b < B ∧ (w.cell? ⟨b, off + i * 5, none⟩ = some (.int .i64 (f i 0)) ∧ w.cell? ⟨b, off + i * 5 + 1, none⟩ = some (.int .i64 (f i 1)) ∧ w.cell? ⟨b, off + i * 5 + 2, none⟩ = some (.int .i64 (f i 2)) ∧ w.cell? ⟨b, off + i * 5 + 3, none⟩ = some (.int .i64 (f i 3)) ∧ w.cell? ⟨b, off + i * 5 + 4, none⟩ = some (.int .i64 (f i 4))) ∧ inAll 5 (f i) := by
  obtain ⟨⟨a', c', he, h1, h2, h3⟩, h4⟩ := h
  cases he
  obtain ⟨b, off, rfl, hlt, hc⟩ := h3 (by omega)
  exact ⟨b, off, rfl, hlt, ⟨hc i 0 hi (by omega), hc i 1 hi (by omega), hc i 2 hi (by omega), hc i 3 hi (by omega), hc i 4 hi (by omega)⟩, h4 i hi⟩
/-- One step of a script, and its first steps. -/
def dropsB (g : Nat → Int) : Bool := decide (pickZ (g 5) 4 = 0)
def stepL (l : List ICard) (g : Nat → Int) : List ICard := if dropsB g then (dropL l (cardG g).id).1 else (putL l (cardG g)).1
def runL (f : Nat → Nat → Int) : Nat → List ICard
  | 0 => []
  | i + 1 => stepL (runL f i) (f i)
theorem stepL_ok {l : List ICard} (h : IOk l) (g : Nat → Int) : IOk (stepL l g) := by
  unfold stepL
  split
  · exact dropL_ok h _
  · exact putL_ok h _
theorem runL_ok (f : Nat → Nat → Int) : ∀ n, IOk (runL f n)
  | 0 => iok_nil
  | n + 1 => stepL_ok (runL_ok f n) _
theorem putL_length (l : List ICard) (c : ICard) : (putL l c).1.length ≤ l.length + 1 := by
  unfold putL
  split
  · exact Nat.le_succ _
  · rw [insC_length]; exact Nat.le_refl _
theorem dropL_length {l : List ICard} (h : IOk l) (id : Int) : (dropL l id).1.length ≤ l.length := by
  unfold dropL
  split
  · exact Nat.le_refl _
  · rename_i c hc
    have := delC_length h (findC_some hc).1
    simp only
    omega
theorem runL_length (f : Nat → Nat → Int) : ∀ n, (runL f n).length ≤ n
  | 0 => Nat.le_refl _
  | n + 1 => by
    have h1 := runL_length f n
    show (stepL _ _).length ≤ _
    unfold stepL
    split
    · have := dropL_length (runL_ok f n) (cardG (f n)).id; omega
    · have := putL_length (runL f n) (cardG (f n)); omega
theorem cardG_in (g : Nat → Int) : inI (cardG g).id := by
  have := (cardG_ok g).2
  unfold inI
  omega
/-- The cards after a script come from steps, and have a small number each. -/
theorem insC_all {P : ICard → Prop} {l : List ICard} {c : ICard} (h : ∀ x ∈ l, P x) (hc : P c) : ∀ x ∈ insC l c, P x := fun x hx => by
  rcases insC_mem.1 hx with rfl | hx
  · exact hc
  · exact h x hx
theorem putL_all {P : ICard → Prop} {l : List ICard} {c : ICard} (h : ∀ x ∈ l, P x) (hc : P c) : ∀ x ∈ (putL l c).1, P x := by
  unfold putL
  split
  · exact h
  · exact insC_all h hc
theorem dropL_all {P : ICard → Prop} {l : List ICard} {id : Int} (h : ∀ x ∈ l, P x) : ∀ x ∈ (dropL l id).1, P x := by
  unfold dropL
  split
  · exact h
  · rename_i c hc
    intro x hx
    simp only [delC, List.mem_append] at hx
    rcases hx with hx | hx
    · exact h x (List.mem_of_mem_take hx)
    · exact h x (List.mem_of_mem_drop hx)
theorem runL_all {P : ICard → Prop} (hP : ∀ g, P (cardG g)) (f : Nat → Nat → Int) : ∀ n, ∀ x ∈ runL f n, P x
  | 0 => fun x hx => by cases hx
  | n + 1 => by
    show ∀ x ∈ stepL _ _, P x
    unfold stepL
    split
    · exact dropL_all (runL_all hP f n)
    · exact putL_all (runL_all hP f n) (hP _)
end Go.Proofs.YtcgopilkajfghaaGreatDoor
