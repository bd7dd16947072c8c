/-
  DERIVED. GIVEN WITH THE SEED: THE CARDS: each row of YteicimmdcdjagaaGreatDoorRows.lean that lists a variable, with what it lists TIED to the program's text (the seventh form; the later family's looks); each row that meets fmt, with fmt's text TOLD by the authors' own Lean function (tested against real Go, not proved from fmt's source: count such statements apart). THE CARD IS WHAT COUNTS. Prove the row's statement (the work); the ties are given (YteicimmdcdjagaaGreatDoorTie.lean); close each card by the builder's one call (the guide's Derived/Test/ToyasCard.lean, 'card_holds'). Laid BY PROGRAM, IN A SANDBOX (cutbox-door.mjs). By AI agents, Wed Nov 11 2026. No macro, syntax, notation, axiom, sorry.
-/
import Derived.Test.YteicimmdcdjagaaGreatDoorRows
import GoSem.ClaimSeven
namespace Go.Proofs.YteicimmdcdjagaaGreatDoor
namespace Rows

/-- THE TIED CARD OF 'putloglaw40.ViewBinds'. -/
def viewBindsCard : Claim7 := { stood := { row := viewBindsRow, standIns := [], harness := (true, "c009a8b8d19c7bae6aa91db36f000aa78e5803754cbcf1184ebba3d0f16587ae"), looks := false }, kinds := [], alts := [], laidByText := true, laidKinds := [.data], laidTests := true, laidLooks := .later }
def ViewBindsCardSaid : Prop := Claim7.holds Tryz.pinned (.plain (OpenSpec.ofChange viewBindsSpec)) viewBindsCard

/-- THE TIED CARD OF 'putloglaw40.ViewQueries'. -/
def viewQueriesCard : Claim7 := { stood := { row := viewQueriesRow, standIns := [], harness := (true, "c009a8b8d19c7bae6aa91db36f000aa78e5803754cbcf1184ebba3d0f16587ae"), looks := false }, kinds := [], alts := [], laidByText := true, laidKinds := [.data], laidTests := true, laidLooks := .later }
def ViewQueriesCardSaid : Prop := Claim7.holds Tryz.pinned (.plain (OpenSpec.ofChange viewQueriesSpec)) viewQueriesCard

/-- THE TIED CARD OF 'putloglaw40.ViewComplete'. -/
def viewCompleteCard : Claim7 := { stood := { row := viewCompleteRow, standIns := [], harness := (true, "c009a8b8d19c7bae6aa91db36f000aa78e5803754cbcf1184ebba3d0f16587ae"), looks := false }, kinds := [], alts := [], laidByText := true, laidKinds := [.data], laidTests := true, laidLooks := .later }
def ViewCompleteCardSaid : Prop := Claim7.holds Tryz.pinned (.plain (OpenSpec.ofChange viewCompleteSpec)) viewCompleteCard

/-- THE TIED CARD OF 'putloglaw40.ViewHides'. -/
def viewHidesCard : Claim7 := { stood := { row := viewHidesRow, standIns := [], harness := (true, "c009a8b8d19c7bae6aa91db36f000aa78e5803754cbcf1184ebba3d0f16587ae"), looks := false }, kinds := [], alts := [], laidByText := true, laidKinds := [.data], laidTests := true, laidLooks := .later }
def ViewHidesCardSaid : Prop := Claim7.holds Tryz.pinned (.plain (OpenSpec.ofChange viewHidesSpec)) viewHidesCard

/-- THE TIED CARD OF 'putloglaw40.ViewMay'. -/
def viewMayCard : Claim7 := { stood := { row := viewMayRow, standIns := [], harness := (true, "c009a8b8d19c7bae6aa91db36f000aa78e5803754cbcf1184ebba3d0f16587ae"), looks := false }, kinds := [], alts := [], laidByText := true, laidKinds := [.data], laidTests := true, laidLooks := .later }
def ViewMayCardSaid : Prop := Claim7.holds Tryz.pinned (.plain (OpenSpec.ofChange viewMaySpec)) viewMayCard

/-- THE TIED CARD OF 'putloglaw40.ViewAdds'. -/
def viewAddsCard : Claim7 := { stood := { row := viewAddsRow, standIns := [], harness := (true, "c009a8b8d19c7bae6aa91db36f000aa78e5803754cbcf1184ebba3d0f16587ae"), looks := false }, kinds := [], alts := [], laidByText := true, laidKinds := [.data], laidTests := true, laidLooks := .later }
def ViewAddsCardSaid : Prop := Claim7.holds Tryz.pinned (.plain (OpenSpec.ofChange viewAddsSpec)) viewAddsCard

/-- THE SECOND FORM's CARD OF 'putloglaw40.ViewBinds'. -/
def viewBindsUptoCard : Claim7 := { stood := { row := viewBindsUptoRow, standIns := [], harness := (true, "c009a8b8d19c7bae6aa91db36f000aa78e5803754cbcf1184ebba3d0f16587ae"), looks := false }, kinds := [], alts := [], laidByText := true, laidKinds := [.data], laidTests := true, laidLooks := .later }
def ViewBindsUptoCardSaid : Prop := Claim7.holds Tryz.pinned (.plain (OpenSpec.upto viewBindsSpec)) viewBindsUptoCard

/-- THE SECOND FORM's CARD OF 'putloglaw40.ViewQueries'. -/
def viewQueriesUptoCard : Claim7 := { stood := { row := viewQueriesUptoRow, standIns := [], harness := (true, "c009a8b8d19c7bae6aa91db36f000aa78e5803754cbcf1184ebba3d0f16587ae"), looks := false }, kinds := [], alts := [], laidByText := true, laidKinds := [.data], laidTests := true, laidLooks := .later }
def ViewQueriesUptoCardSaid : Prop := Claim7.holds Tryz.pinned (.plain (OpenSpec.upto viewQueriesSpec)) viewQueriesUptoCard

/-- THE SECOND FORM's CARD OF 'putloglaw40.ViewComplete'. -/
def viewCompleteUptoCard : Claim7 := { stood := { row := viewCompleteUptoRow, standIns := [], harness := (true, "c009a8b8d19c7bae6aa91db36f000aa78e5803754cbcf1184ebba3d0f16587ae"), looks := false }, kinds := [], alts := [], laidByText := true, laidKinds := [.data], laidTests := true, laidLooks := .later }
def ViewCompleteUptoCardSaid : Prop := Claim7.holds Tryz.pinned (.plain (OpenSpec.upto viewCompleteSpec)) viewCompleteUptoCard

/-- THE SECOND FORM's CARD OF 'putloglaw40.ViewHides'. -/
def viewHidesUptoCard : Claim7 := { stood := { row := viewHidesUptoRow, standIns := [], harness := (true, "c009a8b8d19c7bae6aa91db36f000aa78e5803754cbcf1184ebba3d0f16587ae"), looks := false }, kinds := [], alts := [], laidByText := true, laidKinds := [.data], laidTests := true, laidLooks := .later }
def ViewHidesUptoCardSaid : Prop := Claim7.holds Tryz.pinned (.plain (OpenSpec.upto viewHidesSpec)) viewHidesUptoCard

/-- THE SECOND FORM's CARD OF 'putloglaw40.ViewMay'. -/
def viewMayUptoCard : Claim7 := { stood := { row := viewMayUptoRow, standIns := [], harness := (true, "c009a8b8d19c7bae6aa91db36f000aa78e5803754cbcf1184ebba3d0f16587ae"), looks := false }, kinds := [], alts := [], laidByText := true, laidKinds := [.data], laidTests := true, laidLooks := .later }
def ViewMayUptoCardSaid : Prop := Claim7.holds Tryz.pinned (.plain (OpenSpec.upto viewMaySpec)) viewMayUptoCard

/-- THE SECOND FORM's CARD OF 'putloglaw40.ViewAdds'. -/
def viewAddsUptoCard : Claim7 := { stood := { row := viewAddsUptoRow, standIns := [], harness := (true, "c009a8b8d19c7bae6aa91db36f000aa78e5803754cbcf1184ebba3d0f16587ae"), looks := false }, kinds := [], alts := [], laidByText := true, laidKinds := [.data], laidTests := true, laidLooks := .later }
def ViewAddsUptoCardSaid : Prop := Claim7.holds Tryz.pinned (.plain (OpenSpec.upto viewAddsSpec)) viewAddsUptoCard
end Rows
end Go.Proofs.YteicimmdcdjagaaGreatDoor
