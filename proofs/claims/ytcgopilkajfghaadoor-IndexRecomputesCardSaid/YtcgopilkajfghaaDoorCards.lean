/-
  DERIVED. GIVEN WITH THE SEED: THE CARDS: each row of YtcgopilkajfghaaDoorRows.lean that lists a variable, with what it lists TIED to the program's text (the seventh form; the later family's looks); each row that meets fmt, with fmt's text TOLD by the authors' own Lean function (tested against real Go, not proved from fmt's source: count such statements apart). THE CARD IS WHAT COUNTS. Prove the row's statement (the work); the ties are given (YtcgopilkajfghaaDoorTie.lean); close each card by the builder's one call (the guide's Derived/Test/ToyasCard.lean, 'card_holds'). Laid BY PROGRAM, IN A SANDBOX (cutbox-door.mjs). By AI agents, Wed Nov 11 2026. No macro, syntax, notation, axiom, sorry.
-/
import Derived.Test.YtcgopilkajfghaaDoorRows
import GoSem.ClaimSeven
namespace Go.Proofs.YtcgopilkajfghaaDoor
namespace Rows

/-- THE TIED CARD OF 'putloglaw42.IndexRecomputes'. -/
def indexRecomputesCard : Claim7 := { stood := { row := indexRecomputesRow, standIns := [], harness := (true, "4f7b3409be15ac0cbeeb8c4db02319084f25e79b113127337caef92d06d57ac7"), looks := false }, kinds := [], alts := [], laidByText := true, laidKinds := [.data], laidTests := true, laidLooks := .later }
def IndexRecomputesCardSaid : Prop := Claim7.holds Tryd.pinned (.plain (OpenSpec.ofChange indexRecomputesSpec)) indexRecomputesCard

/-- THE TIED CARD OF 'putloglaw42.IndexAnyWay'. -/
def indexAnyWayCard : Claim7 := { stood := { row := indexAnyWayRow, standIns := [], harness := (true, "4f7b3409be15ac0cbeeb8c4db02319084f25e79b113127337caef92d06d57ac7"), looks := false }, kinds := [], alts := [], laidByText := true, laidKinds := [.data], laidTests := true, laidLooks := .later }
def IndexAnyWayCardSaid : Prop := Claim7.holds Tryd.pinned (.plain (OpenSpec.ofChange indexAnyWaySpec)) indexAnyWayCard

/-- THE TIED CARD OF 'putloglaw42.IndexUndone'. -/
def indexUndoneCard : Claim7 := { stood := { row := indexUndoneRow, standIns := [], harness := (true, "4f7b3409be15ac0cbeeb8c4db02319084f25e79b113127337caef92d06d57ac7"), looks := false }, kinds := [], alts := [], laidByText := true, laidKinds := [.data], laidTests := true, laidLooks := .later }
def IndexUndoneCardSaid : Prop := Claim7.holds Tryd.pinned (.plain (OpenSpec.ofChange indexUndoneSpec)) indexUndoneCard

/-- THE TIED CARD OF 'putloglaw42.IndexLevels'. -/
def indexLevelsCard : Claim7 := { stood := { row := indexLevelsRow, standIns := [], harness := (true, "4f7b3409be15ac0cbeeb8c4db02319084f25e79b113127337caef92d06d57ac7"), looks := false }, kinds := [], alts := [], laidByText := true, laidKinds := [.data], laidTests := true, laidLooks := .later }
def IndexLevelsCardSaid : Prop := Claim7.holds Tryd.pinned (.plain (OpenSpec.ofChange indexLevelsSpec)) indexLevelsCard

/-- THE TIED CARD OF 'putloglaw42.IndexOrder'. -/
def indexOrderCard : Claim7 := { stood := { row := indexOrderRow, standIns := [], harness := (true, "4f7b3409be15ac0cbeeb8c4db02319084f25e79b113127337caef92d06d57ac7"), looks := false }, kinds := [], alts := [], laidByText := true, laidKinds := [.data], laidTests := true, laidLooks := .later }
def IndexOrderCardSaid : Prop := Claim7.holds Tryd.pinned (.plain (OpenSpec.ofChange indexOrderSpec)) indexOrderCard

/-- THE TIED CARD OF 'putloglaw42.IndexRoots'. -/
def indexRootsCard : Claim7 := { stood := { row := indexRootsRow, standIns := [], harness := (true, "4f7b3409be15ac0cbeeb8c4db02319084f25e79b113127337caef92d06d57ac7"), looks := false }, kinds := [], alts := [], laidByText := true, laidKinds := [.data], laidTests := true, laidLooks := .later }
def IndexRootsCardSaid : Prop := Claim7.holds Tryd.pinned (.plain (OpenSpec.ofChange indexRootsSpec)) indexRootsCard

/-- THE SECOND FORM's CARD OF 'putloglaw42.IndexRecomputes'. -/
def indexRecomputesUptoCard : Claim7 := { stood := { row := indexRecomputesUptoRow, standIns := [], harness := (true, "4f7b3409be15ac0cbeeb8c4db02319084f25e79b113127337caef92d06d57ac7"), looks := false }, kinds := [], alts := [], laidByText := true, laidKinds := [.data], laidTests := true, laidLooks := .later }
def IndexRecomputesUptoCardSaid : Prop := Claim7.holds Tryd.pinned (.plain (OpenSpec.upto indexRecomputesSpec)) indexRecomputesUptoCard

/-- THE SECOND FORM's CARD OF 'putloglaw42.IndexAnyWay'. -/
def indexAnyWayUptoCard : Claim7 := { stood := { row := indexAnyWayUptoRow, standIns := [], harness := (true, "4f7b3409be15ac0cbeeb8c4db02319084f25e79b113127337caef92d06d57ac7"), looks := false }, kinds := [], alts := [], laidByText := true, laidKinds := [.data], laidTests := true, laidLooks := .later }
def IndexAnyWayUptoCardSaid : Prop := Claim7.holds Tryd.pinned (.plain (OpenSpec.upto indexAnyWaySpec)) indexAnyWayUptoCard

/-- THE SECOND FORM's CARD OF 'putloglaw42.IndexUndone'. -/
def indexUndoneUptoCard : Claim7 := { stood := { row := indexUndoneUptoRow, standIns := [], harness := (true, "4f7b3409be15ac0cbeeb8c4db02319084f25e79b113127337caef92d06d57ac7"), looks := false }, kinds := [], alts := [], laidByText := true, laidKinds := [.data], laidTests := true, laidLooks := .later }
def IndexUndoneUptoCardSaid : Prop := Claim7.holds Tryd.pinned (.plain (OpenSpec.upto indexUndoneSpec)) indexUndoneUptoCard

/-- THE SECOND FORM's CARD OF 'putloglaw42.IndexLevels'. -/
def indexLevelsUptoCard : Claim7 := { stood := { row := indexLevelsUptoRow, standIns := [], harness := (true, "4f7b3409be15ac0cbeeb8c4db02319084f25e79b113127337caef92d06d57ac7"), looks := false }, kinds := [], alts := [], laidByText := true, laidKinds := [.data], laidTests := true, laidLooks := .later }
def IndexLevelsUptoCardSaid : Prop := Claim7.holds Tryd.pinned (.plain (OpenSpec.upto indexLevelsSpec)) indexLevelsUptoCard

/-- THE SECOND FORM's CARD OF 'putloglaw42.IndexOrder'. -/
def indexOrderUptoCard : Claim7 := { stood := { row := indexOrderUptoRow, standIns := [], harness := (true, "4f7b3409be15ac0cbeeb8c4db02319084f25e79b113127337caef92d06d57ac7"), looks := false }, kinds := [], alts := [], laidByText := true, laidKinds := [.data], laidTests := true, laidLooks := .later }
def IndexOrderUptoCardSaid : Prop := Claim7.holds Tryd.pinned (.plain (OpenSpec.upto indexOrderSpec)) indexOrderUptoCard

/-- THE SECOND FORM's CARD OF 'putloglaw42.IndexRoots'. -/
def indexRootsUptoCard : Claim7 := { stood := { row := indexRootsUptoRow, standIns := [], harness := (true, "4f7b3409be15ac0cbeeb8c4db02319084f25e79b113127337caef92d06d57ac7"), looks := false }, kinds := [], alts := [], laidByText := true, laidKinds := [.data], laidTests := true, laidLooks := .later }
def IndexRootsUptoCardSaid : Prop := Claim7.holds Tryd.pinned (.plain (OpenSpec.upto indexRootsSpec)) indexRootsUptoCard
end Rows
end Go.Proofs.YtcgopilkajfghaaDoor
