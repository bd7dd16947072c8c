import Derived.Test.YteicimmdcdjagaaGreatDoorMWire
import Derived.Test.YteicimmdcdjagaaGreatDoorMPlain
set_option linter.unusedVariables false
set_option linter.unusedSimpArgs false

/- Plain: what a tag of a logbook binds. -/
namespace Go.Proofs.YteicimmdcdjagaaGreatDoor

/-- A number that the encoding takes. -/
def EncZ (n : Int) : Prop := -4611686018427387903 ≤ n ∧ n ≤ 4611686018427387903
theorem enc_front {a b : Int} (ha : EncZ a) (hb : EncZ b) {x y : List UInt8} (h : enc (zz a) ++ x = enc (zz b) ++ y) : a = b ∧ x = y := by
  have h1 := dec_enc a ha.1 ha.2 x
  have h2 := dec_enc b hb.1 hb.2 y
  rw [h, h2] at h1
  have h3 : b = a := congrArg Prod.fst (Option.some.inj h1)
  subst h3
  exact ⟨rfl, List.append_cancel_left h⟩
/-- What is signed. -/
def contentB (office n : Int) (root : Bytes) : Bytes := enc (zz office) ++ (enc (zz n) ++ root)
def tagB (key : Bytes) (office n : Int) (root : Bytes) : Bytes := nodeB key (leafB (contentB office n root))
theorem tagB_length (key : Bytes) (office n : Int) (root : Bytes) : (tagB key office n root).length = 32 := nodeB_length _ _
/-- The strings that are hashed for a tag. -/
def tagsL (key : Bytes) (office n : Int) (root : Bytes) : List Bytes := [0 :: contentB office n root, 1 :: (key ++ leafB (contentB office n root))]
theorem signed_plain {k o : Bytes} {s t m n : Int} {r u : Bytes} (hk : k.length = 32) (ho : o.length = 32) (hs : EncZ s) (ht : EncZ t) (hm : EncZ m) (hn : EncZ n) (h : tagB k s m r = tagB o t n u) (hne : ¬ (o = k ∧ t = s ∧ n = m ∧ u = r)) : meetB (tagsL k s m r) (tagsL o t n u) = true := by
  by_cases e : (1 : UInt8) :: (k ++ leafB (contentB s m r)) = 1 :: (o ++ leafB (contentB t n u))
  · injection e with _ e
    obtain ⟨e1, e2⟩ := List.append_inj e (by rw [hk, ho])
    by_cases ec : contentB s m r = contentB t n u
    · exfalso
      obtain ⟨h1, h2⟩ := enc_front hs ht ec
      obtain ⟨h3, h4⟩ := enc_front hm hn h2
      exact hne ⟨e1.symm, h1.symm, h3.symm, h4.symm⟩
    · exact meetB_of (x := 0 :: contentB s m r) (y := 0 :: contentB t n u) (by simp [tagsL]) (by simp [tagsL]) (fun e => ec (by injection e)) e2
  · exact meetB_of (x := 1 :: (k ++ leafB (contentB s m r))) (y := 1 :: (o ++ leafB (contentB t n u))) (by simp [tagsL]) (by simp [tagsL]) e h
end Go.Proofs.YteicimmdcdjagaaGreatDoor
