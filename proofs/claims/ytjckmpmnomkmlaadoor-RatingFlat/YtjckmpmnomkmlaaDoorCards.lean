/-
  DERIVED. GIVEN WITH THE SEED: THE CARDS: each row of YtjckmpmnomkmlaaDoorRows.lean that lists a variable, with what it lists TIED to the program's text (the seventh form; the later family's looks); each row that meets fmt, with fmt's text TOLD by the authors' own Lean function (tested against real Go, not proved from fmt's source: count such statements apart). THE CARD IS WHAT COUNTS. Prove the row's statement (the work); the ties are given (YtjckmpmnomkmlaaDoorTie.lean); close each card by the builder's one call (the guide's Derived/Test/ToyasCard.lean, 'card_holds'). Laid BY PROGRAM, IN A SANDBOX (cutbox-door.mjs). By AI agents, Wed Nov 11 2026. No macro, syntax, notation, axiom, sorry.
-/
import Derived.Test.YtjckmpmnomkmlaaDoorRows
import GoSem.ClaimSeven
namespace Go.Proofs.YtjckmpmnomkmlaaDoor
namespace Rows

/-- THE TIED CARD OF 'dialtonelaw37.RatingCosts'. -/
def ratingCostsCard : Claim7 := { stood := { row := ratingCostsRow, standIns := [], harness := (true, "2accb2b20d4c7fb5385141f2304cea78c1f8ea3f01608da50ffc4a8eed441323"), looks := false }, kinds := [], alts := [], laidByText := true, laidKinds := [.data, .pinned], laidTests := true, laidLooks := .later }
def RatingCostsCardSaid : Prop := Claim7.holds Tryd.pinned (.plain (OpenSpec.ofChange ratingCostsSpec)) ratingCostsCard

/-- THE TIED CARD OF 'dialtonelaw37.RatingGrows'. -/
def ratingGrowsCard : Claim7 := { stood := { row := ratingGrowsRow, standIns := [], harness := (true, "2accb2b20d4c7fb5385141f2304cea78c1f8ea3f01608da50ffc4a8eed441323"), looks := false }, kinds := [], alts := [], laidByText := true, laidKinds := [.data, .pinned], laidTests := true, laidLooks := .later }
def RatingGrowsCardSaid : Prop := Claim7.holds Tryd.pinned (.plain (OpenSpec.ofChange ratingGrowsSpec)) ratingGrowsCard

/-- THE TIED CARD OF 'dialtonelaw37.RatingFlat'. -/
def ratingFlatCard : Claim7 := { stood := { row := ratingFlatRow, standIns := [], harness := (true, "2accb2b20d4c7fb5385141f2304cea78c1f8ea3f01608da50ffc4a8eed441323"), looks := false }, kinds := [], alts := [], laidByText := true, laidKinds := [.data, .pinned], laidTests := true, laidLooks := .later }
def RatingFlatCardSaid : Prop := Claim7.holds Tryd.pinned (.plain (OpenSpec.ofChange ratingFlatSpec)) ratingFlatCard

/-- THE TIED CARD OF 'dialtonelaw37.RatingTimes'. -/
def ratingTimesCard : Claim7 := { stood := { row := ratingTimesRow, standIns := [], harness := (true, "2accb2b20d4c7fb5385141f2304cea78c1f8ea3f01608da50ffc4a8eed441323"), looks := false }, kinds := [], alts := [], laidByText := true, laidKinds := [.data, .pinned], laidTests := true, laidLooks := .later }
def RatingTimesCardSaid : Prop := Claim7.holds Tryd.pinned (.plain (OpenSpec.ofChange ratingTimesSpec)) ratingTimesCard

/-- THE TIED CARD OF 'dialtonelaw37.RatingPieces'. -/
def ratingPiecesCard : Claim7 := { stood := { row := ratingPiecesRow, standIns := [], harness := (true, "2accb2b20d4c7fb5385141f2304cea78c1f8ea3f01608da50ffc4a8eed441323"), looks := false }, kinds := [], alts := [], laidByText := true, laidKinds := [.data, .pinned], laidTests := true, laidLooks := .later }
def RatingPiecesCardSaid : Prop := Claim7.holds Tryd.pinned (.plain (OpenSpec.ofChange ratingPiecesSpec)) ratingPiecesCard

/-- THE TIED CARD OF 'dialtonelaw37.RatingKnown'. -/
def ratingKnownCard : Claim7 := { stood := { row := ratingKnownRow, standIns := [], harness := (true, "2accb2b20d4c7fb5385141f2304cea78c1f8ea3f01608da50ffc4a8eed441323"), looks := false }, kinds := [], alts := [], laidByText := true, laidKinds := [.data, .pinned], laidTests := true, laidLooks := .later }
def RatingKnownCardSaid : Prop := Claim7.holds Tryd.pinned (.plain (OpenSpec.ofChange ratingKnownSpec)) ratingKnownCard

/-- THE TIED CARD OF 'dialtonelaw37.RatingFinds'. -/
def ratingFindsCard : Claim7 := { stood := { row := ratingFindsRow, standIns := [], harness := (true, "2accb2b20d4c7fb5385141f2304cea78c1f8ea3f01608da50ffc4a8eed441323"), looks := false }, kinds := [], alts := [], laidByText := true, laidKinds := [.data, .pinned], laidTests := true, laidLooks := .later }
def RatingFindsCardSaid : Prop := Claim7.holds Tryd.pinned (.plain (OpenSpec.ofChange ratingFindsSpec)) ratingFindsCard

/-- THE SECOND FORM's CARD OF 'dialtonelaw37.RatingCosts'. -/
def ratingCostsUptoCard : Claim7 := { stood := { row := ratingCostsUptoRow, standIns := [], harness := (true, "2accb2b20d4c7fb5385141f2304cea78c1f8ea3f01608da50ffc4a8eed441323"), looks := false }, kinds := [], alts := [], laidByText := true, laidKinds := [.data, .pinned], laidTests := true, laidLooks := .later }
def RatingCostsUptoCardSaid : Prop := Claim7.holds Tryd.pinned (.plain (OpenSpec.upto ratingCostsSpec)) ratingCostsUptoCard

/-- THE SECOND FORM's CARD OF 'dialtonelaw37.RatingGrows'. -/
def ratingGrowsUptoCard : Claim7 := { stood := { row := ratingGrowsUptoRow, standIns := [], harness := (true, "2accb2b20d4c7fb5385141f2304cea78c1f8ea3f01608da50ffc4a8eed441323"), looks := false }, kinds := [], alts := [], laidByText := true, laidKinds := [.data, .pinned], laidTests := true, laidLooks := .later }
def RatingGrowsUptoCardSaid : Prop := Claim7.holds Tryd.pinned (.plain (OpenSpec.upto ratingGrowsSpec)) ratingGrowsUptoCard

/-- THE SECOND FORM's CARD OF 'dialtonelaw37.RatingFlat'. -/
def ratingFlatUptoCard : Claim7 := { stood := { row := ratingFlatUptoRow, standIns := [], harness := (true, "2accb2b20d4c7fb5385141f2304cea78c1f8ea3f01608da50ffc4a8eed441323"), looks := false }, kinds := [], alts := [], laidByText := true, laidKinds := [.data, .pinned], laidTests := true, laidLooks := .later }
def RatingFlatUptoCardSaid : Prop := Claim7.holds Tryd.pinned (.plain (OpenSpec.upto ratingFlatSpec)) ratingFlatUptoCard

/-- THE SECOND FORM's CARD OF 'dialtonelaw37.RatingTimes'. -/
def ratingTimesUptoCard : Claim7 := { stood := { row := ratingTimesUptoRow, standIns := [], harness := (true, "2accb2b20d4c7fb5385141f2304cea78c1f8ea3f01608da50ffc4a8eed441323"), looks := false }, kinds := [], alts := [], laidByText := true, laidKinds := [.data, .pinned], laidTests := true, laidLooks := .later }
def RatingTimesUptoCardSaid : Prop := Claim7.holds Tryd.pinned (.plain (OpenSpec.upto ratingTimesSpec)) ratingTimesUptoCard

/-- THE SECOND FORM's CARD OF 'dialtonelaw37.RatingPieces'. -/
def ratingPiecesUptoCard : Claim7 := { stood := { row := ratingPiecesUptoRow, standIns := [], harness := (true, "2accb2b20d4c7fb5385141f2304cea78c1f8ea3f01608da50ffc4a8eed441323"), looks := false }, kinds := [], alts := [], laidByText := true, laidKinds := [.data, .pinned], laidTests := true, laidLooks := .later }
def RatingPiecesUptoCardSaid : Prop := Claim7.holds Tryd.pinned (.plain (OpenSpec.upto ratingPiecesSpec)) ratingPiecesUptoCard

/-- THE SECOND FORM's CARD OF 'dialtonelaw37.RatingKnown'. -/
def ratingKnownUptoCard : Claim7 := { stood := { row := ratingKnownUptoRow, standIns := [], harness := (true, "2accb2b20d4c7fb5385141f2304cea78c1f8ea3f01608da50ffc4a8eed441323"), looks := false }, kinds := [], alts := [], laidByText := true, laidKinds := [.data, .pinned], laidTests := true, laidLooks := .later }
def RatingKnownUptoCardSaid : Prop := Claim7.holds Tryd.pinned (.plain (OpenSpec.upto ratingKnownSpec)) ratingKnownUptoCard

/-- THE SECOND FORM's CARD OF 'dialtonelaw37.RatingFinds'. -/
def ratingFindsUptoCard : Claim7 := { stood := { row := ratingFindsUptoRow, standIns := [], harness := (true, "2accb2b20d4c7fb5385141f2304cea78c1f8ea3f01608da50ffc4a8eed441323"), looks := false }, kinds := [], alts := [], laidByText := true, laidKinds := [.data, .pinned], laidTests := true, laidLooks := .later }
def RatingFindsUptoCardSaid : Prop := Claim7.holds Tryd.pinned (.plain (OpenSpec.upto ratingFindsSpec)) ratingFindsUptoCard
end Rows
end Go.Proofs.YtjckmpmnomkmlaaDoor
