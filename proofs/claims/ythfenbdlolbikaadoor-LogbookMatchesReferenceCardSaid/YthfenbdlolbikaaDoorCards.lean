/-
  DERIVED. GIVEN WITH THE SEED: THE CARDS: each row of YthfenbdlolbikaaDoorRows.lean that lists a variable, with what it lists TIED to the program's text (the seventh form; the later family's looks); each row that meets fmt, with fmt's text TOLD by the authors' own Lean function (tested against real Go, not proved from fmt's source: count such statements apart). THE CARD IS WHAT COUNTS. Prove the row's statement (the work); the ties are given (YthfenbdlolbikaaDoorTie.lean); close each card by the builder's one call (the guide's Derived/Test/ToyasCard.lean, 'card_holds'). Laid BY PROGRAM, IN A SANDBOX (cutbox-door.mjs). By AI agents, Wed Nov 11 2026. No macro, syntax, notation, axiom, sorry.
-/
import Derived.Test.YthfenbdlolbikaaDoorRows
import GoSem.ClaimSeven
namespace Go.Proofs.YthfenbdlolbikaaDoor
namespace Rows

/-- THE TIED CARD OF 'putloglaw38.LogbookMatchesReference'. -/
def logbookMatchesReferenceCard : Claim7 := { stood := { row := logbookMatchesReferenceRow, standIns := [], harness := (true, "20081dbb1a628b509e0a2f7b410fd860d1af2c4daf69b9dcc13e63289b7d571d"), looks := true }, kinds := [], alts := [], laidByText := true, laidKinds := [.data], laidTests := true, laidLooks := .later }
def LogbookMatchesReferenceCardSaid : Prop := Claim7.holds Tryd.pinned (.plain (OpenSpec.ofChange logbookMatchesReferenceSpec)) logbookMatchesReferenceCard

/-- THE TIED CARD OF 'putloglaw38.LogbookStays'. -/
def logbookStaysCard : Claim7 := { stood := { row := logbookStaysRow, standIns := [], harness := (true, "20081dbb1a628b509e0a2f7b410fd860d1af2c4daf69b9dcc13e63289b7d571d"), looks := true }, kinds := [], alts := [], laidByText := true, laidKinds := [.data], laidTests := true, laidLooks := .later }
def LogbookStaysCardSaid : Prop := Claim7.holds Tryd.pinned (.plain (OpenSpec.ofChange logbookStaysSpec)) logbookStaysCard

/-- THE TIED CARD OF 'putloglaw38.LogbookFinds'. -/
def logbookFindsCard : Claim7 := { stood := { row := logbookFindsRow, standIns := [], harness := (true, "20081dbb1a628b509e0a2f7b410fd860d1af2c4daf69b9dcc13e63289b7d571d"), looks := true }, kinds := [], alts := [], laidByText := true, laidKinds := [.data], laidTests := true, laidLooks := .later }
def LogbookFindsCardSaid : Prop := Claim7.holds Tryd.pinned (.plain (OpenSpec.ofChange logbookFindsSpec)) logbookFindsCard

/-- THE TIED CARD OF 'putloglaw38.LogbookProved'. -/
def logbookProvedCard : Claim7 := { stood := { row := logbookProvedRow, standIns := [], harness := (true, "20081dbb1a628b509e0a2f7b410fd860d1af2c4daf69b9dcc13e63289b7d571d"), looks := true }, kinds := [], alts := [], laidByText := true, laidKinds := [.data], laidTests := true, laidLooks := .later }
def LogbookProvedCardSaid : Prop := Claim7.holds Tryd.pinned (.plain (OpenSpec.ofChange logbookProvedSpec)) logbookProvedCard

/-- THE TIED CARD OF 'putloglaw38.LogbookSigned'. -/
def logbookSignedCard : Claim7 := { stood := { row := logbookSignedRow, standIns := [], harness := (true, "20081dbb1a628b509e0a2f7b410fd860d1af2c4daf69b9dcc13e63289b7d571d"), looks := true }, kinds := [], alts := [], laidByText := true, laidKinds := [.data], laidTests := true, laidLooks := .later }
def LogbookSignedCardSaid : Prop := Claim7.holds Tryd.pinned (.plain (OpenSpec.ofChange logbookSignedSpec)) logbookSignedCard

/-- THE TIED CARD OF 'putloglaw38.LogbookDecodes'. -/
def logbookDecodesCard : Claim7 := { stood := { row := logbookDecodesRow, standIns := [], harness := (true, "20081dbb1a628b509e0a2f7b410fd860d1af2c4daf69b9dcc13e63289b7d571d"), looks := true }, kinds := [], alts := [], laidByText := true, laidKinds := [.data], laidTests := true, laidLooks := .later }
def LogbookDecodesCardSaid : Prop := Claim7.holds Tryd.pinned (.plain (OpenSpec.ofChange logbookDecodesSpec)) logbookDecodesCard

/-- THE SECOND FORM's CARD OF 'putloglaw38.LogbookMatchesReference'. -/
def logbookMatchesReferenceUptoCard : Claim7 := { stood := { row := logbookMatchesReferenceUptoRow, standIns := [], harness := (true, "20081dbb1a628b509e0a2f7b410fd860d1af2c4daf69b9dcc13e63289b7d571d"), looks := true }, kinds := [], alts := [], laidByText := true, laidKinds := [.data], laidTests := true, laidLooks := .later }
def LogbookMatchesReferenceUptoCardSaid : Prop := Claim7.holds Tryd.pinned (.plain (OpenSpec.upto logbookMatchesReferenceSpec)) logbookMatchesReferenceUptoCard

/-- THE SECOND FORM's CARD OF 'putloglaw38.LogbookStays'. -/
def logbookStaysUptoCard : Claim7 := { stood := { row := logbookStaysUptoRow, standIns := [], harness := (true, "20081dbb1a628b509e0a2f7b410fd860d1af2c4daf69b9dcc13e63289b7d571d"), looks := true }, kinds := [], alts := [], laidByText := true, laidKinds := [.data], laidTests := true, laidLooks := .later }
def LogbookStaysUptoCardSaid : Prop := Claim7.holds Tryd.pinned (.plain (OpenSpec.upto logbookStaysSpec)) logbookStaysUptoCard

/-- THE SECOND FORM's CARD OF 'putloglaw38.LogbookFinds'. -/
def logbookFindsUptoCard : Claim7 := { stood := { row := logbookFindsUptoRow, standIns := [], harness := (true, "20081dbb1a628b509e0a2f7b410fd860d1af2c4daf69b9dcc13e63289b7d571d"), looks := true }, kinds := [], alts := [], laidByText := true, laidKinds := [.data], laidTests := true, laidLooks := .later }
def LogbookFindsUptoCardSaid : Prop := Claim7.holds Tryd.pinned (.plain (OpenSpec.upto logbookFindsSpec)) logbookFindsUptoCard

/-- THE SECOND FORM's CARD OF 'putloglaw38.LogbookProved'. -/
def logbookProvedUptoCard : Claim7 := { stood := { row := logbookProvedUptoRow, standIns := [], harness := (true, "20081dbb1a628b509e0a2f7b410fd860d1af2c4daf69b9dcc13e63289b7d571d"), looks := true }, kinds := [], alts := [], laidByText := true, laidKinds := [.data], laidTests := true, laidLooks := .later }
def LogbookProvedUptoCardSaid : Prop := Claim7.holds Tryd.pinned (.plain (OpenSpec.upto logbookProvedSpec)) logbookProvedUptoCard

/-- THE SECOND FORM's CARD OF 'putloglaw38.LogbookSigned'. -/
def logbookSignedUptoCard : Claim7 := { stood := { row := logbookSignedUptoRow, standIns := [], harness := (true, "20081dbb1a628b509e0a2f7b410fd860d1af2c4daf69b9dcc13e63289b7d571d"), looks := true }, kinds := [], alts := [], laidByText := true, laidKinds := [.data], laidTests := true, laidLooks := .later }
def LogbookSignedUptoCardSaid : Prop := Claim7.holds Tryd.pinned (.plain (OpenSpec.upto logbookSignedSpec)) logbookSignedUptoCard

/-- THE SECOND FORM's CARD OF 'putloglaw38.LogbookDecodes'. -/
def logbookDecodesUptoCard : Claim7 := { stood := { row := logbookDecodesUptoRow, standIns := [], harness := (true, "20081dbb1a628b509e0a2f7b410fd860d1af2c4daf69b9dcc13e63289b7d571d"), looks := true }, kinds := [], alts := [], laidByText := true, laidKinds := [.data], laidTests := true, laidLooks := .later }
def LogbookDecodesUptoCardSaid : Prop := Claim7.holds Tryd.pinned (.plain (OpenSpec.upto logbookDecodesSpec)) logbookDecodesUptoCard
end Rows
end Go.Proofs.YthfenbdlolbikaaDoor
