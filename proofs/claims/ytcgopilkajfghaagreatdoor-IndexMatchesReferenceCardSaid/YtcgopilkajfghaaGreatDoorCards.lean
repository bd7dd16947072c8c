/-
  DERIVED. GIVEN WITH THE SEED: THE CARDS: each row of YtcgopilkajfghaaGreatDoorRows.lean that lists a variable, with what it lists TIED to the program's text (the seventh form; the later family's looks); each row that meets fmt, with fmt's text TOLD by the authors' own Lean function (tested against real Go, not proved from fmt's source: count such statements apart). THE CARD IS WHAT COUNTS. Prove the row's statement (the work); the ties are given (YtcgopilkajfghaaGreatDoorTie.lean); close each card by the builder's one call (the guide's Derived/Test/ToyasCard.lean, 'card_holds'). Laid BY PROGRAM, IN A SANDBOX (cutbox-door.mjs). By AI agents, Wed Nov 11 2026. No macro, syntax, notation, axiom, sorry.
-/
import Derived.Test.YtcgopilkajfghaaGreatDoorRows
import GoSem.ClaimSeven
namespace Go.Proofs.YtcgopilkajfghaaGreatDoor
namespace Rows

/-- THE TIED CARD OF 'putloglaw42.IndexMatchesReference'. -/
def indexMatchesReferenceCard : Claim7 := { stood := { row := indexMatchesReferenceRow, standIns := [], harness := (true, "57c903d34becfd165d226d48817c62bf046c5e39988ee2f0667932d2d77b72e8"), looks := false }, kinds := [], alts := [], laidByText := true, laidKinds := [.data], laidTests := true, laidLooks := .later }
def IndexMatchesReferenceCardSaid : Prop := Claim7.holds Tryz.pinned (.plain (OpenSpec.ofChange indexMatchesReferenceSpec)) indexMatchesReferenceCard

/-- THE SECOND FORM's CARD OF 'putloglaw42.IndexMatchesReference'. -/
def indexMatchesReferenceUptoCard : Claim7 := { stood := { row := indexMatchesReferenceUptoRow, standIns := [], harness := (true, "57c903d34becfd165d226d48817c62bf046c5e39988ee2f0667932d2d77b72e8"), looks := false }, kinds := [], alts := [], laidByText := true, laidKinds := [.data], laidTests := true, laidLooks := .later }
def IndexMatchesReferenceUptoCardSaid : Prop := Claim7.holds Tryz.pinned (.plain (OpenSpec.upto indexMatchesReferenceSpec)) indexMatchesReferenceUptoCard
end Rows
end Go.Proofs.YtcgopilkajfghaaGreatDoor
