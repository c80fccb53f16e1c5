/-
  DERIVED. GIVEN WITH THE SEED: THE CARDS: each row of YtdelkgfodeilkaaDoorRows.lean that lists a variable, with what it lists TIED to the program's text (the seventh form; the later family's looks); each row that meets fmt, with fmt's text TOLD by the authors' own Lean function (tested against real Go, not proved from fmt's source: count such statements apart). THE CARD IS WHAT COUNTS. Prove the row's statement (the work); the ties are given (YtdelkgfodeilkaaDoorTie.lean); close each card by the builder's one call (the guide's Derived/Test/ToyasCard.lean, 'card_holds'). Laid BY PROGRAM, IN A SANDBOX (cutbox-door.mjs). By AI agents, Wed Nov 11 2026. No macro, syntax, notation, axiom, sorry.
-/
import Derived.Test.YtdelkgfodeilkaaDoorRows
import GoSem.ClaimSeven
namespace Go.Proofs.YtdelkgfodeilkaaDoor
namespace Rows

/-- THE TIED CARD OF 'ablautlaw36.PointsMetric'. -/
def pointsMetricCard : Claim7 := { stood := { row := pointsMetricRow, standIns := [], harness := (true, "f36bd3a71c59fafa86b471e697bf4efc44d99ece8d798cdfbce39d1cc1f7883c"), looks := false }, kinds := [], alts := [], laidByText := true, laidKinds := [.data, .pinned], laidTests := true, laidLooks := .later }
def PointsMetricCardSaid : Prop := Claim7.holds Tryd.pinned (.plain (OpenSpec.ofChange pointsMetricSpec)) pointsMetricCard

/-- THE TIED CARD OF 'ablautlaw36.PointsWithin'. -/
def pointsWithinCard : Claim7 := { stood := { row := pointsWithinRow, standIns := [], harness := (true, "f36bd3a71c59fafa86b471e697bf4efc44d99ece8d798cdfbce39d1cc1f7883c"), looks := false }, kinds := [], alts := [], laidByText := true, laidKinds := [.data, .pinned], laidTests := true, laidLooks := .later }
def PointsWithinCardSaid : Prop := Claim7.holds Tryd.pinned (.plain (OpenSpec.ofChange pointsWithinSpec)) pointsWithinCard

/-- THE TIED CARD OF 'ablautlaw36.PointsMore'. -/
def pointsMoreCard : Claim7 := { stood := { row := pointsMoreRow, standIns := [], harness := (true, "f36bd3a71c59fafa86b471e697bf4efc44d99ece8d798cdfbce39d1cc1f7883c"), looks := false }, kinds := [], alts := [], laidByText := true, laidKinds := [.data, .pinned], laidTests := true, laidLooks := .later }
def PointsMoreCardSaid : Prop := Claim7.holds Tryd.pinned (.plain (OpenSpec.ofChange pointsMoreSpec)) pointsMoreCard

/-- THE TIED CARD OF 'ablautlaw36.PointsDists'. -/
def pointsDistsCard : Claim7 := { stood := { row := pointsDistsRow, standIns := [], harness := (true, "f36bd3a71c59fafa86b471e697bf4efc44d99ece8d798cdfbce39d1cc1f7883c"), looks := false }, kinds := [], alts := [], laidByText := true, laidKinds := [.data, .pinned], laidTests := true, laidLooks := .later }
def PointsDistsCardSaid : Prop := Claim7.holds Tryd.pinned (.plain (OpenSpec.ofChange pointsDistsSpec)) pointsDistsCard

/-- THE TIED CARD OF 'ablautlaw36.PointsWays'. -/
def pointsWaysCard : Claim7 := { stood := { row := pointsWaysRow, standIns := [], harness := (true, "f36bd3a71c59fafa86b471e697bf4efc44d99ece8d798cdfbce39d1cc1f7883c"), looks := false }, kinds := [], alts := [], laidByText := true, laidKinds := [.data, .pinned], laidTests := true, laidLooks := .later }
def PointsWaysCardSaid : Prop := Claim7.holds Tryd.pinned (.plain (OpenSpec.ofChange pointsWaysSpec)) pointsWaysCard

/-- THE TIED CARD OF 'ablautlaw36.PointsRoads'. -/
def pointsRoadsCard : Claim7 := { stood := { row := pointsRoadsRow, standIns := [], harness := (true, "f36bd3a71c59fafa86b471e697bf4efc44d99ece8d798cdfbce39d1cc1f7883c"), looks := false }, kinds := [], alts := [], laidByText := true, laidKinds := [.data, .pinned], laidTests := true, laidLooks := .later }
def PointsRoadsCardSaid : Prop := Claim7.holds Tryd.pinned (.plain (OpenSpec.ofChange pointsRoadsSpec)) pointsRoadsCard

/-- THE TIED CARD OF 'ablautlaw36.PointsNews'. -/
def pointsNewsCard : Claim7 := { stood := { row := pointsNewsRow, standIns := [], harness := (true, "f36bd3a71c59fafa86b471e697bf4efc44d99ece8d798cdfbce39d1cc1f7883c"), looks := false }, kinds := [], alts := [], laidByText := true, laidKinds := [.data, .pinned], laidTests := true, laidLooks := .later }
def PointsNewsCardSaid : Prop := Claim7.holds Tryd.pinned (.plain (OpenSpec.ofChange pointsNewsSpec)) pointsNewsCard

/-- THE TIED CARD OF 'ablautlaw36.PointsAreas'. -/
def pointsAreasCard : Claim7 := { stood := { row := pointsAreasRow, standIns := [], harness := (true, "f36bd3a71c59fafa86b471e697bf4efc44d99ece8d798cdfbce39d1cc1f7883c"), looks := false }, kinds := [], alts := [], laidByText := true, laidKinds := [.data, .pinned], laidTests := true, laidLooks := .later }
def PointsAreasCardSaid : Prop := Claim7.holds Tryd.pinned (.plain (OpenSpec.ofChange pointsAreasSpec)) pointsAreasCard

/-- THE TIED CARD OF 'ablautlaw36.PointsMiddle'. -/
def pointsMiddleCard : Claim7 := { stood := { row := pointsMiddleRow, standIns := [], harness := (true, "f36bd3a71c59fafa86b471e697bf4efc44d99ece8d798cdfbce39d1cc1f7883c"), looks := false }, kinds := [], alts := [], laidByText := true, laidKinds := [.data, .pinned], laidTests := true, laidLooks := .later }
def PointsMiddleCardSaid : Prop := Claim7.holds Tryd.pinned (.plain (OpenSpec.ofChange pointsMiddleSpec)) pointsMiddleCard

/-- THE TIED CARD OF 'ablautlaw36.PointsNil'. -/
def pointsNilCard : Claim7 := { stood := { row := pointsNilRow, standIns := [], harness := (true, "f36bd3a71c59fafa86b471e697bf4efc44d99ece8d798cdfbce39d1cc1f7883c"), looks := false }, kinds := [], alts := [], laidByText := true, laidKinds := [.data, .pinned], laidTests := true, laidLooks := .later }
def PointsNilCardSaid : Prop := Claim7.holds Tryd.pinned (.plain (OpenSpec.ofChange pointsNilSpec)) pointsNilCard

/-- THE SECOND FORM's CARD OF 'ablautlaw36.PointsMetric'. -/
def pointsMetricUptoCard : Claim7 := { stood := { row := pointsMetricUptoRow, standIns := [], harness := (true, "f36bd3a71c59fafa86b471e697bf4efc44d99ece8d798cdfbce39d1cc1f7883c"), looks := false }, kinds := [], alts := [], laidByText := true, laidKinds := [.data, .pinned], laidTests := true, laidLooks := .later }
def PointsMetricUptoCardSaid : Prop := Claim7.holds Tryd.pinned (.plain (OpenSpec.upto pointsMetricSpec)) pointsMetricUptoCard

/-- THE SECOND FORM's CARD OF 'ablautlaw36.PointsWithin'. -/
def pointsWithinUptoCard : Claim7 := { stood := { row := pointsWithinUptoRow, standIns := [], harness := (true, "f36bd3a71c59fafa86b471e697bf4efc44d99ece8d798cdfbce39d1cc1f7883c"), looks := false }, kinds := [], alts := [], laidByText := true, laidKinds := [.data, .pinned], laidTests := true, laidLooks := .later }
def PointsWithinUptoCardSaid : Prop := Claim7.holds Tryd.pinned (.plain (OpenSpec.upto pointsWithinSpec)) pointsWithinUptoCard

/-- THE SECOND FORM's CARD OF 'ablautlaw36.PointsMore'. -/
def pointsMoreUptoCard : Claim7 := { stood := { row := pointsMoreUptoRow, standIns := [], harness := (true, "f36bd3a71c59fafa86b471e697bf4efc44d99ece8d798cdfbce39d1cc1f7883c"), looks := false }, kinds := [], alts := [], laidByText := true, laidKinds := [.data, .pinned], laidTests := true, laidLooks := .later }
def PointsMoreUptoCardSaid : Prop := Claim7.holds Tryd.pinned (.plain (OpenSpec.upto pointsMoreSpec)) pointsMoreUptoCard

/-- THE SECOND FORM's CARD OF 'ablautlaw36.PointsDists'. -/
def pointsDistsUptoCard : Claim7 := { stood := { row := pointsDistsUptoRow, standIns := [], harness := (true, "f36bd3a71c59fafa86b471e697bf4efc44d99ece8d798cdfbce39d1cc1f7883c"), looks := false }, kinds := [], alts := [], laidByText := true, laidKinds := [.data, .pinned], laidTests := true, laidLooks := .later }
def PointsDistsUptoCardSaid : Prop := Claim7.holds Tryd.pinned (.plain (OpenSpec.upto pointsDistsSpec)) pointsDistsUptoCard

/-- THE SECOND FORM's CARD OF 'ablautlaw36.PointsWays'. -/
def pointsWaysUptoCard : Claim7 := { stood := { row := pointsWaysUptoRow, standIns := [], harness := (true, "f36bd3a71c59fafa86b471e697bf4efc44d99ece8d798cdfbce39d1cc1f7883c"), looks := false }, kinds := [], alts := [], laidByText := true, laidKinds := [.data, .pinned], laidTests := true, laidLooks := .later }
def PointsWaysUptoCardSaid : Prop := Claim7.holds Tryd.pinned (.plain (OpenSpec.upto pointsWaysSpec)) pointsWaysUptoCard

/-- THE SECOND FORM's CARD OF 'ablautlaw36.PointsRoads'. -/
def pointsRoadsUptoCard : Claim7 := { stood := { row := pointsRoadsUptoRow, standIns := [], harness := (true, "f36bd3a71c59fafa86b471e697bf4efc44d99ece8d798cdfbce39d1cc1f7883c"), looks := false }, kinds := [], alts := [], laidByText := true, laidKinds := [.data, .pinned], laidTests := true, laidLooks := .later }
def PointsRoadsUptoCardSaid : Prop := Claim7.holds Tryd.pinned (.plain (OpenSpec.upto pointsRoadsSpec)) pointsRoadsUptoCard

/-- THE SECOND FORM's CARD OF 'ablautlaw36.PointsNews'. -/
def pointsNewsUptoCard : Claim7 := { stood := { row := pointsNewsUptoRow, standIns := [], harness := (true, "f36bd3a71c59fafa86b471e697bf4efc44d99ece8d798cdfbce39d1cc1f7883c"), looks := false }, kinds := [], alts := [], laidByText := true, laidKinds := [.data, .pinned], laidTests := true, laidLooks := .later }
def PointsNewsUptoCardSaid : Prop := Claim7.holds Tryd.pinned (.plain (OpenSpec.upto pointsNewsSpec)) pointsNewsUptoCard

/-- THE SECOND FORM's CARD OF 'ablautlaw36.PointsAreas'. -/
def pointsAreasUptoCard : Claim7 := { stood := { row := pointsAreasUptoRow, standIns := [], harness := (true, "f36bd3a71c59fafa86b471e697bf4efc44d99ece8d798cdfbce39d1cc1f7883c"), looks := false }, kinds := [], alts := [], laidByText := true, laidKinds := [.data, .pinned], laidTests := true, laidLooks := .later }
def PointsAreasUptoCardSaid : Prop := Claim7.holds Tryd.pinned (.plain (OpenSpec.upto pointsAreasSpec)) pointsAreasUptoCard

/-- THE SECOND FORM's CARD OF 'ablautlaw36.PointsMiddle'. -/
def pointsMiddleUptoCard : Claim7 := { stood := { row := pointsMiddleUptoRow, standIns := [], harness := (true, "f36bd3a71c59fafa86b471e697bf4efc44d99ece8d798cdfbce39d1cc1f7883c"), looks := false }, kinds := [], alts := [], laidByText := true, laidKinds := [.data, .pinned], laidTests := true, laidLooks := .later }
def PointsMiddleUptoCardSaid : Prop := Claim7.holds Tryd.pinned (.plain (OpenSpec.upto pointsMiddleSpec)) pointsMiddleUptoCard

/-- THE SECOND FORM's CARD OF 'ablautlaw36.PointsNil'. -/
def pointsNilUptoCard : Claim7 := { stood := { row := pointsNilUptoRow, standIns := [], harness := (true, "f36bd3a71c59fafa86b471e697bf4efc44d99ece8d798cdfbce39d1cc1f7883c"), looks := false }, kinds := [], alts := [], laidByText := true, laidKinds := [.data, .pinned], laidTests := true, laidLooks := .later }
def PointsNilUptoCardSaid : Prop := Claim7.holds Tryd.pinned (.plain (OpenSpec.upto pointsNilSpec)) pointsNilUptoCard
end Rows
end Go.Proofs.YtdelkgfodeilkaaDoor
