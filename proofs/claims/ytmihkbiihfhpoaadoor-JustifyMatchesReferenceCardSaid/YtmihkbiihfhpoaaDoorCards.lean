/-
  DERIVED. GIVEN WITH THE SEED: THE CARDS: each row of YtmihkbiihfhpoaaDoorRows.lean that lists a variable, with what it lists TIED to the program's text (the seventh form; the later family's looks); each row that meets fmt, with fmt's text TOLD by the authors' own Lean function (tested against real Go, not proved from fmt's source: count such statements apart). THE CARD IS WHAT COUNTS. Prove the row's statement (the work); the ties are given (YtmihkbiihfhpoaaDoorTie.lean); close each card by the builder's one call (the guide's Derived/Test/ToyasCard.lean, 'card_holds'). Laid BY PROGRAM, IN A SANDBOX (cutbox-door.mjs). By AI agents, Wed Nov 11 2026. No macro, syntax, notation, axiom, sorry.
-/
import Derived.Test.YtmihkbiihfhpoaaDoorRows
import GoSem.ClaimSeven
namespace Go.Proofs.YtmihkbiihfhpoaaDoor
namespace Rows

/-- THE TIED CARD OF 'putloglaw23.JustifyMatchesReference'. -/
def justifyMatchesReferenceCard : Claim7 := { stood := { row := justifyMatchesReferenceRow, standIns := [], harness := (true, "784a0027c641baa25f417e568a88d08ccaa2ed4d30ae17a216b1f0436eda769c"), looks := false }, kinds := [], alts := [], laidByText := true, laidKinds := [.data, .data], laidTests := true, laidLooks := .later }
def JustifyMatchesReferenceCardSaid : Prop := Claim7.holds Tryd.pinned (.plain (OpenSpec.ofChange justifyMatchesReferenceSpec)) justifyMatchesReferenceCard

/-- THE TIED CARD OF 'putloglaw23.JustifyLeast'. -/
def justifyLeastCard : Claim7 := { stood := { row := justifyLeastRow, standIns := [], harness := (true, "784a0027c641baa25f417e568a88d08ccaa2ed4d30ae17a216b1f0436eda769c"), looks := false }, kinds := [], alts := [], laidByText := true, laidKinds := [.data, .data], laidTests := true, laidLooks := .later }
def JustifyLeastCardSaid : Prop := Claim7.holds Tryd.pinned (.plain (OpenSpec.ofChange justifyLeastSpec)) justifyLeastCard

/-- THE TIED CARD OF 'putloglaw23.JustifySupports'. -/
def justifySupportsCard : Claim7 := { stood := { row := justifySupportsRow, standIns := [], harness := (true, "784a0027c641baa25f417e568a88d08ccaa2ed4d30ae17a216b1f0436eda769c"), looks := false }, kinds := [], alts := [], laidByText := true, laidKinds := [.data, .data], laidTests := true, laidLooks := .later }
def JustifySupportsCardSaid : Prop := Claim7.holds Tryd.pinned (.plain (OpenSpec.ofChange justifySupportsSpec)) justifySupportsCard

/-- THE TIED CARD OF 'putloglaw23.JustifyRetracts'. -/
def justifyRetractsCard : Claim7 := { stood := { row := justifyRetractsRow, standIns := [], harness := (true, "784a0027c641baa25f417e568a88d08ccaa2ed4d30ae17a216b1f0436eda769c"), looks := false }, kinds := [], alts := [], laidByText := true, laidKinds := [.data, .data], laidTests := true, laidLooks := .later }
def JustifyRetractsCardSaid : Prop := Claim7.holds Tryd.pinned (.plain (OpenSpec.ofChange justifyRetractsSpec)) justifyRetractsCard

/-- THE TIED CARD OF 'putloglaw23.JustifyCuts'. -/
def justifyCutsCard : Claim7 := { stood := { row := justifyCutsRow, standIns := [], harness := (true, "784a0027c641baa25f417e568a88d08ccaa2ed4d30ae17a216b1f0436eda769c"), looks := false }, kinds := [], alts := [], laidByText := true, laidKinds := [.data, .data], laidTests := true, laidLooks := .later }
def JustifyCutsCardSaid : Prop := Claim7.holds Tryd.pinned (.plain (OpenSpec.ofChange justifyCutsSpec)) justifyCutsCard

/-- THE TIED CARD OF 'putloglaw23.JustifyWhy'. -/
def justifyWhyCard : Claim7 := { stood := { row := justifyWhyRow, standIns := [], harness := (true, "784a0027c641baa25f417e568a88d08ccaa2ed4d30ae17a216b1f0436eda769c"), looks := false }, kinds := [], alts := [], laidByText := true, laidKinds := [.data, .data], laidTests := true, laidLooks := .later }
def JustifyWhyCardSaid : Prop := Claim7.holds Tryd.pinned (.plain (OpenSpec.ofChange justifyWhySpec)) justifyWhyCard

/-- THE TIED CARD OF 'putloglaw23.JustifyMore'. -/
def justifyMoreCard : Claim7 := { stood := { row := justifyMoreRow, standIns := [], harness := (true, "784a0027c641baa25f417e568a88d08ccaa2ed4d30ae17a216b1f0436eda769c"), looks := false }, kinds := [], alts := [], laidByText := true, laidKinds := [.data, .data], laidTests := true, laidLooks := .later }
def JustifyMoreCardSaid : Prop := Claim7.holds Tryd.pinned (.plain (OpenSpec.ofChange justifyMoreSpec)) justifyMoreCard

/-- THE SECOND FORM's CARD OF 'putloglaw23.JustifyMatchesReference'. -/
def justifyMatchesReferenceUptoCard : Claim7 := { stood := { row := justifyMatchesReferenceUptoRow, standIns := [], harness := (true, "784a0027c641baa25f417e568a88d08ccaa2ed4d30ae17a216b1f0436eda769c"), looks := false }, kinds := [], alts := [], laidByText := true, laidKinds := [.data, .data], laidTests := true, laidLooks := .later }
def JustifyMatchesReferenceUptoCardSaid : Prop := Claim7.holds Tryd.pinned (.plain (OpenSpec.upto justifyMatchesReferenceSpec)) justifyMatchesReferenceUptoCard

/-- THE SECOND FORM's CARD OF 'putloglaw23.JustifyLeast'. -/
def justifyLeastUptoCard : Claim7 := { stood := { row := justifyLeastUptoRow, standIns := [], harness := (true, "784a0027c641baa25f417e568a88d08ccaa2ed4d30ae17a216b1f0436eda769c"), looks := false }, kinds := [], alts := [], laidByText := true, laidKinds := [.data, .data], laidTests := true, laidLooks := .later }
def JustifyLeastUptoCardSaid : Prop := Claim7.holds Tryd.pinned (.plain (OpenSpec.upto justifyLeastSpec)) justifyLeastUptoCard

/-- THE SECOND FORM's CARD OF 'putloglaw23.JustifySupports'. -/
def justifySupportsUptoCard : Claim7 := { stood := { row := justifySupportsUptoRow, standIns := [], harness := (true, "784a0027c641baa25f417e568a88d08ccaa2ed4d30ae17a216b1f0436eda769c"), looks := false }, kinds := [], alts := [], laidByText := true, laidKinds := [.data, .data], laidTests := true, laidLooks := .later }
def JustifySupportsUptoCardSaid : Prop := Claim7.holds Tryd.pinned (.plain (OpenSpec.upto justifySupportsSpec)) justifySupportsUptoCard

/-- THE SECOND FORM's CARD OF 'putloglaw23.JustifyRetracts'. -/
def justifyRetractsUptoCard : Claim7 := { stood := { row := justifyRetractsUptoRow, standIns := [], harness := (true, "784a0027c641baa25f417e568a88d08ccaa2ed4d30ae17a216b1f0436eda769c"), looks := false }, kinds := [], alts := [], laidByText := true, laidKinds := [.data, .data], laidTests := true, laidLooks := .later }
def JustifyRetractsUptoCardSaid : Prop := Claim7.holds Tryd.pinned (.plain (OpenSpec.upto justifyRetractsSpec)) justifyRetractsUptoCard

/-- THE SECOND FORM's CARD OF 'putloglaw23.JustifyCuts'. -/
def justifyCutsUptoCard : Claim7 := { stood := { row := justifyCutsUptoRow, standIns := [], harness := (true, "784a0027c641baa25f417e568a88d08ccaa2ed4d30ae17a216b1f0436eda769c"), looks := false }, kinds := [], alts := [], laidByText := true, laidKinds := [.data, .data], laidTests := true, laidLooks := .later }
def JustifyCutsUptoCardSaid : Prop := Claim7.holds Tryd.pinned (.plain (OpenSpec.upto justifyCutsSpec)) justifyCutsUptoCard

/-- THE SECOND FORM's CARD OF 'putloglaw23.JustifyWhy'. -/
def justifyWhyUptoCard : Claim7 := { stood := { row := justifyWhyUptoRow, standIns := [], harness := (true, "784a0027c641baa25f417e568a88d08ccaa2ed4d30ae17a216b1f0436eda769c"), looks := false }, kinds := [], alts := [], laidByText := true, laidKinds := [.data, .data], laidTests := true, laidLooks := .later }
def JustifyWhyUptoCardSaid : Prop := Claim7.holds Tryd.pinned (.plain (OpenSpec.upto justifyWhySpec)) justifyWhyUptoCard

/-- THE SECOND FORM's CARD OF 'putloglaw23.JustifyMore'. -/
def justifyMoreUptoCard : Claim7 := { stood := { row := justifyMoreUptoRow, standIns := [], harness := (true, "784a0027c641baa25f417e568a88d08ccaa2ed4d30ae17a216b1f0436eda769c"), looks := false }, kinds := [], alts := [], laidByText := true, laidKinds := [.data, .data], laidTests := true, laidLooks := .later }
def JustifyMoreUptoCardSaid : Prop := Claim7.holds Tryd.pinned (.plain (OpenSpec.upto justifyMoreSpec)) justifyMoreUptoCard
end Rows
end Go.Proofs.YtmihkbiihfhpoaaDoor
