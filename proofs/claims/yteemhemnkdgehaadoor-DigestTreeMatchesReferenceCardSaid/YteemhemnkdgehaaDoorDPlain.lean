/- The laws of proofs, without the program. -/
import Derived.Test.YteemhemnkdgehaaDoorDTree2
namespace Go.Proofs.YteemhemnkdgehaaDoor

theorem valR_cons {x : Bytes} {t : List Bytes} {n i : Nat} {s : Bytes} (hn : 2 ≤ n) : valR (x :: t) n i s = if i < leftN n then (valR t (leftN n) i s).map (nodeB · x) else (valR t (n - leftN n) (i - leftN n) s).map (nodeB x ·) := by
  show (if n ≤ 1 then none else _) = _
  rw [if_neg (by omega)]
/-- A proof's value is the root. -/
theorem valR_proof : ∀ (n : Nat) (l : List Bytes) (i : Nat), l.length ≤ n → i < l.length → valR (proofL l i).reverse l.length i (l.getD i []) = some (rootL l)
  | 0, l, i, h, hi => by omega
  | n + 1, l, i, h, hi => by
    by_cases h1 : l.length ≤ 1
    · match l, hi, h1 with
      | [x], hi, _ =>
        obtain rfl : i = 0 := by simpa using hi
        rw [proofL_one (by simp), rootL_one]
        rfl
      | [], hi, _ => exact absurd hi (by simp)
      | a :: b :: t, _, h1 => exact absurd h1 (by simp)
    · have h2 : 2 ≤ l.length := by omega
      have hb := leftN_bd h2
      by_cases hk : i < leftN l.length
      · have hlt : (l.take (leftN l.length)).length = leftN l.length := by rw [List.length_take]; omega
        have ih := valR_proof n (l.take (leftN l.length)) i (by omega) (by omega)
        rw [hlt] at ih
        rw [proofL_lo h2 hk, List.reverse_append, List.reverse_singleton, List.singleton_append, valR_cons h2, if_pos hk, show l.getD i [] = (l.take (leftN l.length)).getD i [] from by simp [List.getD_eq_getElem?_getD, hk], ih, rootL_split h2]
        rfl
      · have hlt : (l.drop (leftN l.length)).length = l.length - leftN l.length := by rw [List.length_drop]
        have ih := valR_proof n (l.drop (leftN l.length)) (i - leftN l.length) (by omega) (by omega)
        rw [hlt] at ih
        rw [proofL_hi h2 hk, List.reverse_append, List.reverse_singleton, List.singleton_append, valR_cons h2, if_neg hk, show l.getD i [] = (l.drop (leftN l.length)).getD (i - leftN l.length) [] from by simp only [List.getD_eq_getElem?_getD, List.getElem?_drop]; rw [show leftN l.length + (i - leftN l.length) = i from by omega], ih, rootL_split h2]
        rfl
/-- All elements of a proof are digests. -/
theorem proofL_dig : ∀ (n : Nat) (l : List Bytes) (i : Nat), l.length ≤ n → ∀ x ∈ proofL l i, x.length = 32
  | 0, l, i, h, x, hx => by rw [proofL_one (by omega)] at hx; simp at hx
  | n + 1, l, i, h, x, hx => by
    by_cases h1 : l.length ≤ 1
    · rw [proofL_one h1] at hx; simp at hx
    · have h2 : 2 ≤ l.length := by omega
      have hb := leftN_bd h2
      by_cases hk : i < leftN l.length
      · rw [proofL_lo h2 hk] at hx
        rcases List.mem_append.1 hx with hx | hx
        · exact proofL_dig n _ _ (by rw [List.length_take]; omega) x hx
        · rw [List.mem_singleton.1 hx]; exact rootL_length _
      · rw [proofL_hi h2 hk] at hx
        rcases List.mem_append.1 hx with hx | hx
        · exact proofL_dig n _ _ (by rw [List.length_drop]; omega) x hx
        · rw [List.mem_singleton.1 hx]; exact rootL_length _
theorem valR_nil {n i : Nat} {s : Bytes} : valR [] n i s = if n ≤ 1 then some (leafB s) else none := rfl
theorem valR_one {x : Bytes} {t : List Bytes} {n i : Nat} {s : Bytes} (hn : n ≤ 1) : valR (x :: t) n i s = none := by
  show (if n ≤ 1 then none else _) = _
  rw [if_pos hn]
/-- All proofs that have a value at a place are equally long. -/
theorem valR_len : ∀ (p q : List Bytes) (n i : Nat) (s t a b : Bytes), valR p n i s = some a → valR q n i t = some b → p.length = q.length
  | [], [], _, _, _, _, _, _, _, _ => rfl
  | [], y :: q, n, i, s, t, a, b, h, g => by
    by_cases hn : n ≤ 1
    · rw [valR_one hn] at g; cases g
    · rw [valR_nil, if_neg hn] at h; cases h
  | x :: p, [], n, i, s, t, a, b, h, g => by
    by_cases hn : n ≤ 1
    · rw [valR_one hn] at h; cases h
    · rw [valR_nil, if_neg hn] at g; cases g
  | x :: p, y :: q, n, i, s, t, a, b, h, g => by
    by_cases hn : n ≤ 1
    · rw [valR_one hn] at h; cases h
    · rw [valR_cons (by omega)] at h g
      by_cases hk : i < leftN n
      · rw [if_pos hk] at h g
        obtain ⟨a', ha, _⟩ := Option.map_eq_some_iff.1 h
        obtain ⟨b', hb, _⟩ := Option.map_eq_some_iff.1 g
        simp only [List.length_cons]
        rw [valR_len p q _ _ _ _ _ _ ha hb]
      · rw [if_neg hk] at h g
        obtain ⟨a', ha, _⟩ := Option.map_eq_some_iff.1 h
        obtain ⟨b', hb, _⟩ := Option.map_eq_some_iff.1 g
        simp only [List.length_cons]
        rw [valR_len p q _ _ _ _ _ _ ha hb]
theorem leftN_le {n e : Nat} (h : 2 ≤ n) (he : n ≤ 2 ^ (e + 1)) : leftN n ≤ 2 ^ e := by
  have hb := leftN_bd h
  obtain ⟨k, h1, h2⟩ : ∃ k, 2 ^ k < n ∧ n ≤ 2 ^ (k + 1) := by
    refine ⟨Nat.log2 (n - 1), ?_, ?_⟩
    · have := Nat.log2_self_le (n := n - 1) (by omega); omega
    · have := Nat.lt_log2_self (n := n - 1); omega
  rw [leftN_of h1 h2]
  refine Nat.pow_le_pow_right (by omega) ?_
  have : 2 ^ k < 2 ^ (e + 1) := Nat.lt_of_lt_of_le h1 he
  have := (Nat.pow_lt_pow_iff_right (by omega)).1 this
  omega
/-- Proofs are short. -/
theorem proofL_short : ∀ (n : Nat) (l : List Bytes) (i e : Nat), l.length ≤ n → l.length ≤ 2 ^ e → (proofL l i).length ≤ e
  | 0, l, i, e, h, _ => by rw [proofL_one (by omega)]; exact Nat.zero_le _
  | n + 1, l, i, e, h, he => by
    by_cases h1 : l.length ≤ 1
    · rw [proofL_one h1]; exact Nat.zero_le _
    · have h2 : 2 ≤ l.length := by omega
      have hb := leftN_bd h2
      obtain ⟨e', rfl⟩ : ∃ e', e = e' + 1 := by
        cases e with
        | zero => simp at he; omega
        | succ e' => exact ⟨e', rfl⟩
      have hp : leftN l.length ≤ 2 ^ e' := leftN_le h2 he
      by_cases hk : i < leftN l.length
      · rw [proofL_lo h2 hk, List.length_append, List.length_singleton]
        have := proofL_short n (l.take (leftN l.length)) i e' (by rw [List.length_take]; omega) (by rw [List.length_take]; omega)
        omega
      · rw [proofL_hi h2 hk, List.length_append, List.length_singleton]
        have := proofL_short n (l.drop (leftN l.length)) (i - leftN l.length) e' (by rw [List.length_drop]; omega) (by rw [List.length_drop]; omega)
        omega
/-- The strings whose digests a proof's value is made of, and the value. -/
def wayR : List Bytes → Nat → Nat → Bytes → List Bytes × Bytes
  | [], _, _, s => ([0 :: s], leafB s)
  | x :: t, n, i, s => if n ≤ 1 then ([0 :: s], leafB s) else
    if i < leftN n then ((1 :: ((wayR t (leftN n) i s).2 ++ x)) :: (wayR t (leftN n) i s).1, nodeB (wayR t (leftN n) i s).2 x)
    else ((1 :: (x ++ (wayR t (n - leftN n) (i - leftN n) s).2)) :: (wayR t (n - leftN n) (i - leftN n) s).1, nodeB x (wayR t (n - leftN n) (i - leftN n) s).2)
/-- Two different strings at the same place have the same digest. -/
def collB (a b : List Bytes) : Bool := (a.zip b).any fun p => p.1 != p.2 && sha p.1 == sha p.2
theorem collB_head {x y : Bytes} {a b : List Bytes} (h : x ≠ y) (hs : sha x = sha y) : collB (x :: a) (y :: b) = true := by
  unfold collB
  simp [h, hs]
theorem collB_tail {x y : Bytes} {a b : List Bytes} (h : collB a b = true) : collB (x :: a) (y :: b) = true := by
  unfold collB at h ⊢
  rw [List.zip_cons_cons, List.any_cons, h, Bool.or_true]
theorem wayR_two : ∀ (p : List Bytes) (n i : Nat) (s r : Bytes), valR p n i s = some r → (wayR p n i s).2 = r ∧ r.length = 32
  | [], n, i, s, r, h => by
    rw [valR_nil] at h
    split at h
    · cases h; exact ⟨rfl, leafB_length _⟩
    · cases h
  | x :: t, n, i, s, r, h => by
    by_cases hn : n ≤ 1
    · rw [valR_one hn] at h; cases h
    · rw [valR_cons (by omega)] at h
      unfold wayR
      rw [if_neg hn]
      by_cases hk : i < leftN n
      · rw [if_pos hk] at h ⊢
        obtain ⟨a', ha, rfl⟩ := Option.map_eq_some_iff.1 h
        rw [(wayR_two t _ _ _ _ ha).1]
        exact ⟨rfl, nodeB_length _ _⟩
      · rw [if_neg hk] at h ⊢
        obtain ⟨a', ha, rfl⟩ := Option.map_eq_some_iff.1 h
        rw [(wayR_two t _ _ _ _ ha).1]
        exact ⟨rfl, nodeB_length _ _⟩
/-- Two entries with proofs for one place and one root: a collision. -/
theorem binding : ∀ (p q : List Bytes) (n i : Nat) (s t r : Bytes), (∀ x ∈ p, x.length = 32) → (∀ x ∈ q, x.length = 32) → s ≠ t → valR p n i s = some r → valR q n i t = some r → collB (wayR p n i s).1 (wayR q n i t).1 = true
  | [], [], n, i, s, t, r, _, _, hne, h, g => by
    rw [valR_nil] at h g
    split at h
    · rename_i hn
      rw [if_pos hn] at g
      exact collB_head (fun e => hne (by injection e)) ((Option.some.inj h).trans (Option.some.inj g).symm)
    · cases h
  | [], y :: q, n, i, s, t, r, _, _, _, h, g => by have := valR_len _ _ _ _ _ _ _ _ h g; simp at this
  | x :: p, [], n, i, s, t, r, _, _, _, h, g => by have := valR_len _ _ _ _ _ _ _ _ h g; simp at this
  | x :: p, y :: q, n, i, s, t, r, hp, hq, hne, h, g => by
    by_cases hn : n ≤ 1
    · rw [valR_one hn] at h; cases h
    · rw [valR_cons (by omega)] at h g
      unfold wayR
      rw [if_neg hn, if_neg hn]
      by_cases hk : i < leftN n
      · rw [if_pos hk] at h g ⊢
        rw [if_pos hk]
        obtain ⟨a, ha, ha'⟩ := Option.map_eq_some_iff.1 h
        obtain ⟨b, hb, hb'⟩ := Option.map_eq_some_iff.1 g
        have h1 := wayR_two _ _ _ _ _ ha
        have h2 := wayR_two _ _ _ _ _ hb
        rw [h1.1, h2.1]
        by_cases he : (1 : UInt8) :: (a ++ x) = 1 :: (b ++ y)
        · have e1 : a = b := (List.append_inj (by injection he) (by rw [h1.2, h2.2])).1
          subst e1
          exact collB_tail (binding p q _ _ s t a (fun z hz => hp z (by simp [hz])) (fun z hz => hq z (by simp [hz])) hne ha hb)
        · exact collB_head he (ha'.trans hb'.symm)
      · rw [if_neg hk] at h g ⊢
        rw [if_neg hk]
        obtain ⟨a, ha, ha'⟩ := Option.map_eq_some_iff.1 h
        obtain ⟨b, hb, hb'⟩ := Option.map_eq_some_iff.1 g
        have h1 := wayR_two _ _ _ _ _ ha
        have h2 := wayR_two _ _ _ _ _ hb
        rw [h1.1, h2.1]
        by_cases he : (1 : UInt8) :: (x ++ a) = 1 :: (y ++ b)
        · have e1 : a = b := (List.append_inj (by injection he) (by rw [hp x (by simp), hq y (by simp)])).2
          subst e1
          exact collB_tail (binding p q _ _ s t a (fun z hz => hp z (by simp [hz])) (fun z hz => hq z (by simp [hz])) hne ha hb)
        · exact collB_head he (ha'.trans hb'.symm)
theorem leftN_same {m n : Nat} (h : leftN n < m) (hm : m ≤ n) (hn : 2 ≤ n) : leftN m = leftN n := by
  obtain ⟨k, h1, h2⟩ : ∃ k, 2 ^ k < n ∧ n ≤ 2 ^ (k + 1) := by
    refine ⟨Nat.log2 (n - 1), ?_, ?_⟩
    · have := Nat.log2_self_le (n := n - 1) (by omega); omega
    · have := Nat.lt_log2_self (n := n - 1); omega
  rw [leftN_of h1 h2] at h ⊢
  exact leftN_of h (by omega)
theorem bothR_cons {old x : Bytes} {t : List Bytes} {m n : Nat} {whole : Bool} (h : m ≠ n) : bothR old (x :: t) m n whole = if m ≤ leftN n then (bothR old t m (leftN n) whole).map (fun p => (p.1, nodeB p.2 x)) else (bothR old t (m - leftN n) (n - leftN n) false).map (fun p => (nodeB x p.1, nodeB x p.2)) := by
  show (if m = n then _ else _) = _
  rw [if_neg h]
/-- The values of the proof that a list begins with m entries. -/
theorem bothR_part : ∀ (n : Nat) (l : List Bytes) (m : Nat) (whole : Bool) (old : Bytes), l.length ≤ n → 1 ≤ m → m ≤ l.length → (whole = true → old = rootL (l.take m)) → bothR old (partL l m whole).reverse m l.length whole = some (rootL (l.take m), rootL l)
  | 0, l, m, whole, old, h, h1, hm, _ => by omega
  | n + 1, l, m, whole, old, h, h1, hm, ho => by
    by_cases he : m = l.length
    · rw [partL_all h1 he]
      subst he
      rw [List.take_length] at ho ⊢
      cases whole
      · show (if l.length = l.length then (if false = false ∧ ([] : List Bytes) = [] then some (rootL l, rootL l) else none) else _) = _
        rw [if_pos rfl, if_pos ⟨rfl, rfl⟩]
      · rw [← ho rfl]
        show (if l.length = l.length ∧ true = true then some (old, old) else none) = _
        rw [if_pos ⟨rfl, rfl⟩]
    · have h2 : 2 ≤ l.length := by omega
      have hb := leftN_bd h2
      by_cases hk : m ≤ leftN l.length
      · have hlt : (l.take (leftN l.length)).length = leftN l.length := by rw [List.length_take]; omega
        have htt : (l.take (leftN l.length)).take m = l.take m := by rw [List.take_take, Nat.min_eq_left hk]
        have ih := bothR_part n (l.take (leftN l.length)) m whole old (by omega) h1 (by omega) (by rw [htt]; exact ho)
        rw [hlt, htt] at ih
        rw [partL_lo h1 (by omega) hk, List.reverse_append, List.reverse_singleton, List.singleton_append, bothR_cons he, if_pos hk, ih, rootL_split h2]
        rfl
      · have hlt : (l.drop (leftN l.length)).length = l.length - leftN l.length := by rw [List.length_drop]
        have ih := bothR_part n (l.drop (leftN l.length)) (m - leftN l.length) false old (by omega) (by omega) (by omega) (fun h => by cases h)
        rw [hlt] at ih
        have hlm : (l.take m).length = m := by rw [List.length_take]; omega
        have hsm := leftN_same (n := l.length) (m := m) (by omega) hm h2
        have hr : rootL (l.take m) = nodeB (rootL (l.take (leftN l.length))) (rootL ((l.drop (leftN l.length)).take (m - leftN l.length))) := by
          rw [rootL_split (by rw [hlm]; omega), hlm, hsm, List.take_take, Nat.min_eq_left (by omega), List.drop_take]
        rw [partL_hi h1 (by omega) hk, List.reverse_append, List.reverse_singleton, List.singleton_append, bothR_cons he, if_neg hk, ih, hr]
        conv => rhs; rw [rootL_split h2]
        rfl
/-- All elements of the proof of a beginning are digests, and it is short. -/
theorem partL_dig : ∀ (n : Nat) (l : List Bytes) (m : Nat) (whole : Bool), l.length ≤ n → 1 ≤ m → m ≤ l.length → ∀ x ∈ partL l m whole, x.length = 32
  | 0, l, m, whole, h, h1, hm, x, hx => by omega
  | n + 1, l, m, whole, h, h1, hm, x, hx => by
    by_cases he : m = l.length
    · rw [partL_all h1 he] at hx
      cases whole
      · rw [if_neg (by simp), List.mem_singleton] at hx; rw [hx]; exact rootL_length _
      · simp at hx
    · have hb := leftN_bd (n := l.length) (by omega)
      by_cases hk : m ≤ leftN l.length
      · rw [partL_lo h1 (by omega) hk] at hx
        rcases List.mem_append.1 hx with hx | hx
        · exact partL_dig n _ _ _ (by rw [List.length_take]; omega) h1 (by rw [List.length_take]; omega) x hx
        · rw [List.mem_singleton.1 hx]; exact rootL_length _
      · rw [partL_hi h1 (by omega) hk] at hx
        rcases List.mem_append.1 hx with hx | hx
        · exact partL_dig n _ _ _ (by rw [List.length_drop]; omega) (by omega) (by rw [List.length_drop]; omega) x hx
        · rw [List.mem_singleton.1 hx]; exact rootL_length _
theorem partL_short : ∀ (n : Nat) (l : List Bytes) (m : Nat) (whole : Bool) (e : Nat), l.length ≤ n → 1 ≤ m → m ≤ l.length → l.length ≤ 2 ^ e → (partL l m whole).length ≤ e + 1
  | 0, l, m, whole, e, h, h1, hm, he => by omega
  | n + 1, l, m, whole, e, h, h1, hm, he => by
    by_cases hq : m = l.length
    · rw [partL_all h1 hq]
      cases whole <;> simp
    · have h2 : 2 ≤ l.length := by omega
      have hb := leftN_bd h2
      obtain ⟨e', rfl⟩ : ∃ e', e = e' + 1 := by
        cases e with
        | zero => simp at he; omega
        | succ e' => exact ⟨e', rfl⟩
      have hp : leftN l.length ≤ 2 ^ e' := leftN_le h2 he
      by_cases hk : m ≤ leftN l.length
      · rw [partL_lo h1 (by omega) hk, List.length_append, List.length_singleton]
        have := partL_short n (l.take (leftN l.length)) m whole e' (by rw [List.length_take]; omega) h1 (by rw [List.length_take]; omega) (by rw [List.length_take]; omega)
        omega
      · rw [partL_hi h1 (by omega) hk, List.length_append, List.length_singleton]
        have := partL_short n (l.drop (leftN l.length)) (m - leftN l.length) false e' (by rw [List.length_drop]; omega) (by omega) (by rw [List.length_drop]; omega) (by rw [List.length_drop]; omega)
        omega
/-- The strings whose digests the new root of an extension is made of, and the value. -/
def sidesR (old : Bytes) : List Bytes → Nat → Nat → Bool → List Bytes × Bytes
  | [], _, _, _ => ([], old)
  | x :: t, m, n, whole => if n ≤ m then ([], if whole then old else (x :: t).getLastD []) else
    if m ≤ leftN n then ((1 :: ((sidesR old t m (leftN n) whole).2 ++ x)) :: (sidesR old t m (leftN n) whole).1, nodeB (sidesR old t m (leftN n) whole).2 x)
    else ((1 :: (x ++ (sidesR old t (m - leftN n) (n - leftN n) false).2)) :: (sidesR old t (m - leftN n) (n - leftN n) false).1, nodeB x (sidesR old t (m - leftN n) (n - leftN n) false).2)
theorem sidesR_two (old : Bytes) (ho : old.length = 32) : ∀ (p : List Bytes) (m n : Nat) (whole : Bool) (a b : Bytes), (∀ x ∈ p, x.length = 32) → 1 ≤ m → m ≤ n → bothR old p m n whole = some (a, b) → (sidesR old p m n whole).2 = b ∧ b.length = 32 ∧ a.length = 32
  | [], m, n, whole, a, b, _, _, _, h => by
    unfold bothR at h
    split at h
    · cases h; exact ⟨rfl, ho, ho⟩
    · cases h
  | x :: t, m, n, whole, a, b, hp, h1, hm, h => by
    by_cases hn : m = n
    · unfold bothR at h
      rw [if_pos hn] at h
      split at h
      · rename_i hw
        obtain ⟨rfl, rfl⟩ := hw
        cases h
        unfold sidesR
        rw [if_pos (by omega)]
        exact ⟨rfl, hp _ (by simp), hp _ (by simp)⟩
      · cases h
    · have hb := leftN_bd (n := n) (by omega)
      rw [bothR_cons hn] at h
      unfold sidesR
      rw [if_neg (by omega)]
      have hp' : ∀ y ∈ t, y.length = 32 := fun y hy => hp y (by simp [hy])
      by_cases hk : m ≤ leftN n
      · rw [if_pos hk] at h ⊢
        obtain ⟨⟨a', b'⟩, ha, hab⟩ := Option.map_eq_some_iff.1 h
        cases hab
        have ih := sidesR_two old ho t _ _ _ _ _ hp' h1 hk ha
        rw [ih.1]
        exact ⟨rfl, nodeB_length _ _, ih.2.2⟩
      · rw [if_neg hk] at h ⊢
        obtain ⟨⟨a', b'⟩, ha, hab⟩ := Option.map_eq_some_iff.1 h
        cases hab
        have ih := sidesR_two old ho t _ _ _ _ _ hp' (by omega) (by omega) ha
        rw [ih.1]
        exact ⟨rfl, nodeB_length _ _, nodeB_length _ _⟩
/-- Two beginnings of one length with proofs for one root: a collision. -/
theorem extBinding (o1 o2 : Bytes) (h1 : o1.length = 32) (h2 : o2.length = 32) : ∀ (p q : List Bytes) (m n : Nat) (whole : Bool) (a1 a2 r : Bytes), (∀ x ∈ p, x.length = 32) → (∀ x ∈ q, x.length = 32) → 1 ≤ m → m ≤ n → a1 ≠ a2 → bothR o1 p m n whole = some (a1, r) → bothR o2 q m n whole = some (a2, r) → collB (sidesR o1 p m n whole).1 (sidesR o2 q m n whole).1 = true
  | [], [], m, n, whole, a1, a2, r, _, _, _, _, hne, h, g => by
    unfold bothR at h g
    split at h
    · rename_i hc
      rw [if_pos hc] at g
      cases h; cases g; exact absurd rfl hne
    · cases h
  | [], y :: q, m, n, whole, a1, a2, r, _, _, _, _, hne, h, g => by
    unfold bothR at h g
    split at h
    · rename_i hc
      rw [if_pos hc.1, if_neg (by simp [hc.2])] at g
      cases g
    · cases h
  | x :: p, [], m, n, whole, a1, a2, r, _, _, _, _, hne, h, g => by
    unfold bothR at h g
    split at g
    · rename_i hc
      rw [if_pos hc.1, if_neg (by simp [hc.2])] at h
      cases h
    · cases g
  | x :: p, y :: q, m, n, whole, a1, a2, r, hp, hq, hm1, hm, hne, h, g => by
    by_cases hn : m = n
    · unfold bothR at h g
      rw [if_pos hn] at h g
      split at h
      · split at g
        · cases h; cases g; exact absurd rfl hne
        · cases g
      · cases h
    · have hb := leftN_bd (n := n) (by omega)
      rw [bothR_cons hn] at h g
      unfold sidesR
      rw [if_neg (show ¬ n ≤ m by omega), if_neg (show ¬ n ≤ m by omega)]
      have hp' : ∀ z ∈ p, z.length = 32 := fun z hz => hp z (by simp [hz])
      have hq' : ∀ z ∈ q, z.length = 32 := fun z hz => hq z (by simp [hz])
      by_cases hk : m ≤ leftN n
      · rw [if_pos hk] at h g ⊢
        rw [if_pos hk]
        obtain ⟨⟨c1, d1⟩, hc, e1⟩ := Option.map_eq_some_iff.1 h
        obtain ⟨⟨c2, d2⟩, hd, e2⟩ := Option.map_eq_some_iff.1 g
        injection e1 with e1 f1
        injection e2 with e2 f2
        have w1 := sidesR_two o1 h1 p _ _ _ _ _ hp' hm1 hk hc
        have w2 := sidesR_two o2 h2 q _ _ _ _ _ hq' hm1 hk hd
        rw [w1.1, w2.1]
        by_cases he : (1 : UInt8) :: (d1 ++ x) = 1 :: (d2 ++ y)
        · have hd12 : d1 = d2 := (List.append_inj (by injection he) (by rw [w1.2.1, w2.2.1])).1
          subst hd12
          exact collB_tail (extBinding o1 o2 h1 h2 p q _ _ _ c1 c2 d1 hp' hq' hm1 hk (fun e => hne (by rw [← e1, ← e2]; exact e)) hc hd)
        · exact collB_head he (f1.trans f2.symm)
      · rw [if_neg hk] at h g ⊢
        rw [if_neg hk]
        obtain ⟨⟨c1, d1⟩, hc, e1⟩ := Option.map_eq_some_iff.1 h
        obtain ⟨⟨c2, d2⟩, hd, e2⟩ := Option.map_eq_some_iff.1 g
        injection e1 with e1 f1
        injection e2 with e2 f2
        have w1 := sidesR_two o1 h1 p _ _ _ _ _ hp' (by omega) (by omega) hc
        have w2 := sidesR_two o2 h2 q _ _ _ _ _ hq' (by omega) (by omega) hd
        rw [w1.1, w2.1]
        by_cases he : (1 : UInt8) :: (x ++ d1) = 1 :: (y ++ d2)
        · obtain ⟨hxy, hd12⟩ := List.append_inj (show x ++ d1 = y ++ d2 by injection he) (by rw [hp x (by simp), hq y (by simp)])
          subst hd12
          exact collB_tail (extBinding o1 o2 h1 h2 p q _ _ _ c1 c2 d1 hp' hq' (by omega) (by omega) (fun e => hne (by rw [← e1, ← e2, e, hxy])) hc hd)
        · exact collB_head he (f1.trans f2.symm)
end Go.Proofs.YteemhemnkdgehaaDoor
