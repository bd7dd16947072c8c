import Derived.Test.YteicimmdcdjagaaGreatDoorVPlain
set_option linter.unusedVariables false
set_option linter.unusedSimpArgs false

/- Plain: what a page that is accepted binds; different proofs of one entry. -/
namespace Go.Proofs.YteicimmdcdjagaaGreatDoor

structure VPage where
  unit : Int
  notes : List VNote
  salt : List UInt8
  proof : List Bytes
deriving DecidableEq, Inhabited
/-- The strings whose digests are computed for a page that was accepted. -/
def pageH (p : VPage) : List Bytes := sealH p.salt p.notes ++ (wayR p.proof.reverse 100 p.unit.toNat (sealB p.salt p.notes)).1
/-- The page of a unit. -/
def pageOf (d : VDos) (u : Nat) : VPage := ⟨u, ofL d u, saltB d.key u, proofL (sealsL d) u⟩
/-- The page of a dossier is accepted with its root. -/
theorem page_ok (d : VDos) {u : Nat} (hu : u < 100) : verB (rootL (sealsL d)) 100 (u : Nat) (sealB (saltB d.key u) (ofL d u)) (proofL (sealsL d) u) = true := by
  have h1 := valR_proof 100 (sealsL d) u (by rw [sealsL_length]; omega) (by rw [sealsL_length]; exact hu)
  rw [sealsL_length, sealsL_get d hu] at h1
  unfold verB
  simp only [Bool.and_eq_true, decide_eq_true_eq, beq_iff_eq, Int.toNat_natCast]
  refine ⟨⟨⟨by omega, by omega⟩, ?_⟩, h1⟩
  exact List.all_eq_true.2 fun x hx => by simpa using proofL_dig _ _ _ (Nat.le_refl _) x hx
/-- Whatever page is accepted with the root of a dossier has all notes about its unit, and its salt; or there is a collision. -/
theorem complete_plain {lt : VNote → VNote → Prop} {d : VDos} (hd : DosOk lt d) {z : VPage} {u : Nat} (hu : u < 100) (hz : z.unit = u) (hs : z.salt.length = 32) (hn : ∀ n ∈ z.notes, NoteZ n ∧ n.unit = u) (hl : z.notes.length ≤ 1000000)
    (h : verB (rootL (sealsL d)) 100 z.unit (sealB z.salt z.notes) z.proof = true) : (z.notes = ofL d u ∧ z.salt = saltB d.key u) ∨ meetB (pageH (pageOf d u)) (pageH z) = true := by
  by_cases e : sealB z.salt z.notes = sealB (saltB d.key u) (ofL d u)
  · rcases seal_bind (by rw [saltB_length, hs]) e.symm with ⟨h1, h2⟩ | h1
    · refine .inl ⟨?_, h1.symm⟩
      exact (contentN_inj (u := u) (Nat.le_trans (ofL_length _ _) hd.few) hl (fun n hn => by have := mem_ofL.1 hn; exact ⟨(hd.notes n this.1).1, this.2⟩) hn h2).symm
    · obtain ⟨x, hx, y, hy, hxy⟩ := meetB_iff.1 h1
      exact .inr (meetB_iff.2 ⟨x, List.mem_append_left _ hx, y, List.mem_append_left _ hy, hxy⟩)
  · have hp := page_ok d hu
    rw [hz] at h
    unfold verB at h hp
    simp only [Bool.and_eq_true, beq_iff_eq, Int.toNat_natCast] at h hp
    have hq : ∀ (q : List Bytes), digB q = true → ∀ x ∈ q.reverse, x.length = 32 := fun q hq x hx => by
      have := List.all_eq_true.1 hq x (List.mem_reverse.1 hx)
      simpa using this
    have hb := binding (proofL (sealsL d) u).reverse z.proof.reverse 100 u _ _ _ (hq _ hp.1.2) (hq _ h.1.2) (fun e' => e e'.symm) hp.2 h.2
    obtain ⟨x, hx, y, hy, hxy⟩ := meetB_iff.1 (coll_meet hb)
    refine .inr (meetB_iff.2 ⟨x, List.mem_append_right _ ?_, y, List.mem_append_right _ ?_, hxy⟩)
    · exact hx
    · rw [hz]; exact hy
/-- Different proofs of one entry for one root: a collision. -/
theorem proof_bind : ∀ (p q : List Bytes) (n i : Nat) (s r : Bytes), (∀ x ∈ p, x.length = 32) → (∀ x ∈ q, x.length = 32) → p ≠ q → valR p n i s = some r → valR q n i s = some r → collB (wayR p n i s).1 (wayR q n i s).1 = true
  | [], [], n, i, s, r, _, _, hne, _, _ => absurd rfl hne
  | [], y :: q, n, i, s, r, _, _, _, h, g => by have := valR_len _ _ _ _ _ _ _ _ h g; simp at this
  | x :: p, [], n, i, s, r, _, _, _, h, g => by have := valR_len _ _ _ _ _ _ _ _ h g; simp at this
  | x :: p, y :: q, n, i, s, r, hp, hq, hne, h, g => by
    by_cases hn : n ≤ 1
    · rw [valR_one hn] at h; cases h
    · rw [valR_cons (by omega)] at h g
      unfold wayR
      rw [if_neg hn, if_neg hn]
      by_cases hk : i < leftN n
      · rw [if_pos hk] at h g ⊢
        rw [if_pos hk]
        obtain ⟨a, ha, ha'⟩ := Option.map_eq_some_iff.1 h
        obtain ⟨b, hb, hb'⟩ := Option.map_eq_some_iff.1 g
        have h1 := wayR_two _ _ _ _ _ ha
        have h2 := wayR_two _ _ _ _ _ hb
        rw [h1.1, h2.1]
        by_cases he : (1 : UInt8) :: (a ++ x) = 1 :: (b ++ y)
        · obtain ⟨e1, e2⟩ := List.append_inj (by injection he) (by rw [h1.2, h2.2] : a.length = b.length)
          subst e1 e2
          exact collB_tail (proof_bind p q _ _ s a (fun z hz => hp z (by simp [hz])) (fun z hz => hq z (by simp [hz])) (fun e => hne (by rw [e])) ha hb)
        · exact collB_head he (ha'.trans hb'.symm)
      · rw [if_neg hk] at h g ⊢
        rw [if_neg hk]
        obtain ⟨a, ha, ha'⟩ := Option.map_eq_some_iff.1 h
        obtain ⟨b, hb, hb'⟩ := Option.map_eq_some_iff.1 g
        have h1 := wayR_two _ _ _ _ _ ha
        have h2 := wayR_two _ _ _ _ _ hb
        rw [h1.1, h2.1]
        by_cases he : (1 : UInt8) :: (x ++ a) = 1 :: (y ++ b)
        · obtain ⟨e1, e2⟩ := List.append_inj (by injection he) (by rw [hp x (by simp), hq y (by simp)] : x.length = y.length)
          subst e1 e2
          exact collB_tail (proof_bind p q _ _ s a (fun z hz => hp z (by simp [hz])) (fun z hz => hq z (by simp [hz])) (fun e => hne (by rw [e])) ha hb)
        · exact collB_head he (ha'.trans hb'.symm)
/-- The proofs of a unit in two dossiers are of one length, and made of digests. -/
theorem pages_len (d e : VDos) {u : Nat} (hu : u < 100) : (proofL (sealsL d) u).length = (proofL (sealsL e) u).length := by
  have h1 := valR_proof 100 (sealsL d) u (by rw [sealsL_length]; omega) (by rw [sealsL_length]; exact hu)
  have h2 := valR_proof 100 (sealsL e) u (by rw [sealsL_length]; omega) (by rw [sealsL_length]; exact hu)
  rw [sealsL_length] at h1 h2
  have := valR_len _ _ _ _ _ _ _ _ h1 h2
  rwa [List.length_reverse, List.length_reverse] at this
/-- The same page with the same proof: one root. -/
theorem alike_root {d e : VDos} {u : Nat} (hu : u < 100) (hk : d.key = e.key) (hn : ofL d u = ofL e u) (hp : proofL (sealsL d) u = proofL (sealsL e) u) : rootL (sealsL d) = rootL (sealsL e) := by
  have h1 := valR_proof 100 (sealsL d) u (by rw [sealsL_length]; omega) (by rw [sealsL_length]; exact hu)
  have h2 := valR_proof 100 (sealsL e) u (by rw [sealsL_length]; omega) (by rw [sealsL_length]; exact hu)
  rw [sealsL_length, sealsL_get d hu] at h1
  rw [sealsL_length, sealsL_get e hu, ← hk, ← hn, ← hp, h1] at h2
  exact Option.some.inj h2
/-- The page of one dossier, with the same salt and notes and another proof, is accepted with the root of the other one: a collision. -/
theorem hides_plain {d e : VDos} {u : Nat} (hu : u < 100) (hk : d.key = e.key) (hn : ofL d u = ofL e u) (hp : proofL (sealsL d) u ≠ proofL (sealsL e) u) (h : verB (rootL (sealsL d)) 100 (u : Nat) (sealB (saltB e.key u) (ofL e u)) (proofL (sealsL e) u) = true) :
    meetB (pageH (pageOf d u)) (pageH (pageOf e u)) = true := by
  have hd := page_ok d hu
  unfold verB at h hd
  simp only [Bool.and_eq_true, beq_iff_eq, Int.toNat_natCast] at h hd
  have hq : ∀ (q : List Bytes), digB q = true → ∀ x ∈ q.reverse, x.length = 32 := fun q hq x hx => by
    have := List.all_eq_true.1 hq x (List.mem_reverse.1 hx)
    simpa using this
  rw [← hk, ← hn] at h
  have hb := proof_bind _ _ 100 u _ _ (hq _ hd.1.2) (hq _ h.1.2) (fun e' => hp (List.reverse_inj.1 e')) hd.2 h.2
  obtain ⟨x, hx, y, hy, hxy⟩ := meetB_iff.1 (coll_meet hb)
  refine meetB_iff.2 ⟨x, List.mem_append_right _ hx, y, List.mem_append_right _ ?_, hxy⟩
  show y ∈ (wayR (proofL (sealsL e) u).reverse 100 u (sealB (saltB e.key u) (ofL e u))).1
  rw [← hk, ← hn]
  exact hy
end Go.Proofs.YteicimmdcdjagaaGreatDoor
