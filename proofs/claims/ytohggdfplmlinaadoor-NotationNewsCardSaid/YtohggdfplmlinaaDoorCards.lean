/-
  DERIVED. GIVEN WITH THE SEED: THE CARDS: each row of YtohggdfplmlinaaDoorRows.lean that lists a variable, with what it lists TIED to the program's text (the seventh form; the later family's looks); each row that meets fmt, with fmt's text TOLD by the authors' own Lean function (tested against real Go, not proved from fmt's source: count such statements apart). THE CARD IS WHAT COUNTS. Prove the row's statement (the work); the ties are given (YtohggdfplmlinaaDoorTie.lean); close each card by the builder's one call (the guide's Derived/Test/ToyasCard.lean, 'card_holds'). Laid BY PROGRAM, IN A SANDBOX (cutbox-door.mjs). By AI agents, Wed Nov 11 2026. No macro, syntax, notation, axiom, sorry.
-/
import Derived.Test.YtohggdfplmlinaaDoorRows
import GoSem.ClaimSeven
namespace Go.Proofs.YtohggdfplmlinaaDoor
namespace Rows

/-- THE TIED CARD OF 'ablautlaw04.NotationPlaces'. -/
def notationPlacesCard : Claim7 := { stood := { row := notationPlacesRow, standIns := [], harness := (true, "616d909e56f06f6d8ac362fa18cf70debe32c7f425b65b9a0e9e82f35a608580"), looks := false }, kinds := [], alts := [], laidByText := true, laidKinds := [.data, .pinned], laidTests := true, laidLooks := .later }
def NotationPlacesCardSaid : Prop := Claim7.holds Tryd.pinned (.plain (OpenSpec.ofChange notationPlacesSpec)) notationPlacesCard

/-- THE TIED CARD OF 'ablautlaw04.NotationStays'. -/
def notationStaysCard : Claim7 := { stood := { row := notationStaysRow, standIns := [], harness := (true, "616d909e56f06f6d8ac362fa18cf70debe32c7f425b65b9a0e9e82f35a608580"), looks := false }, kinds := [], alts := [], laidByText := true, laidKinds := [.data, .pinned], laidTests := true, laidLooks := .later }
def NotationStaysCardSaid : Prop := Claim7.holds Tryd.pinned (.plain (OpenSpec.ofChange notationStaysSpec)) notationStaysCard

/-- THE TIED CARD OF 'ablautlaw04.NotationBack'. -/
def notationBackCard : Claim7 := { stood := { row := notationBackRow, standIns := [], harness := (true, "616d909e56f06f6d8ac362fa18cf70debe32c7f425b65b9a0e9e82f35a608580"), looks := false }, kinds := [], alts := [], laidByText := true, laidKinds := [.data, .pinned], laidTests := true, laidLooks := .later }
def NotationBackCardSaid : Prop := Claim7.holds Tryd.pinned (.plain (OpenSpec.ofChange notationBackSpec)) notationBackCard

/-- THE TIED CARD OF 'ablautlaw04.NotationNews'. -/
def notationNewsCard : Claim7 := { stood := { row := notationNewsRow, standIns := [], harness := (true, "616d909e56f06f6d8ac362fa18cf70debe32c7f425b65b9a0e9e82f35a608580"), looks := false }, kinds := [], alts := [], laidByText := true, laidKinds := [.data, .pinned], laidTests := true, laidLooks := .later }
def NotationNewsCardSaid : Prop := Claim7.holds Tryd.pinned (.plain (OpenSpec.ofChange notationNewsSpec)) notationNewsCard

/-- THE TIED CARD OF 'ablautlaw04.NotationUnits'. -/
def notationUnitsCard : Claim7 := { stood := { row := notationUnitsRow, standIns := [], harness := (true, "616d909e56f06f6d8ac362fa18cf70debe32c7f425b65b9a0e9e82f35a608580"), looks := false }, kinds := [], alts := [], laidByText := true, laidKinds := [.data, .pinned], laidTests := true, laidLooks := .later }
def NotationUnitsCardSaid : Prop := Claim7.holds Tryd.pinned (.plain (OpenSpec.ofChange notationUnitsSpec)) notationUnitsCard

/-- THE TIED CARD OF 'ablautlaw04.NotationNil'. -/
def notationNilCard : Claim7 := { stood := { row := notationNilRow, standIns := [], harness := (true, "616d909e56f06f6d8ac362fa18cf70debe32c7f425b65b9a0e9e82f35a608580"), looks := false }, kinds := [], alts := [], laidByText := true, laidKinds := [.data, .pinned], laidTests := true, laidLooks := .later }
def NotationNilCardSaid : Prop := Claim7.holds Tryd.pinned (.plain (OpenSpec.ofChange notationNilSpec)) notationNilCard

/-- THE SECOND FORM's CARD OF 'ablautlaw04.NotationPlaces'. -/
def notationPlacesUptoCard : Claim7 := { stood := { row := notationPlacesUptoRow, standIns := [], harness := (true, "616d909e56f06f6d8ac362fa18cf70debe32c7f425b65b9a0e9e82f35a608580"), looks := false }, kinds := [], alts := [], laidByText := true, laidKinds := [.data, .pinned], laidTests := true, laidLooks := .later }
def NotationPlacesUptoCardSaid : Prop := Claim7.holds Tryd.pinned (.plain (OpenSpec.upto notationPlacesSpec)) notationPlacesUptoCard

/-- THE SECOND FORM's CARD OF 'ablautlaw04.NotationStays'. -/
def notationStaysUptoCard : Claim7 := { stood := { row := notationStaysUptoRow, standIns := [], harness := (true, "616d909e56f06f6d8ac362fa18cf70debe32c7f425b65b9a0e9e82f35a608580"), looks := false }, kinds := [], alts := [], laidByText := true, laidKinds := [.data, .pinned], laidTests := true, laidLooks := .later }
def NotationStaysUptoCardSaid : Prop := Claim7.holds Tryd.pinned (.plain (OpenSpec.upto notationStaysSpec)) notationStaysUptoCard

/-- THE SECOND FORM's CARD OF 'ablautlaw04.NotationBack'. -/
def notationBackUptoCard : Claim7 := { stood := { row := notationBackUptoRow, standIns := [], harness := (true, "616d909e56f06f6d8ac362fa18cf70debe32c7f425b65b9a0e9e82f35a608580"), looks := false }, kinds := [], alts := [], laidByText := true, laidKinds := [.data, .pinned], laidTests := true, laidLooks := .later }
def NotationBackUptoCardSaid : Prop := Claim7.holds Tryd.pinned (.plain (OpenSpec.upto notationBackSpec)) notationBackUptoCard

/-- THE SECOND FORM's CARD OF 'ablautlaw04.NotationNews'. -/
def notationNewsUptoCard : Claim7 := { stood := { row := notationNewsUptoRow, standIns := [], harness := (true, "616d909e56f06f6d8ac362fa18cf70debe32c7f425b65b9a0e9e82f35a608580"), looks := false }, kinds := [], alts := [], laidByText := true, laidKinds := [.data, .pinned], laidTests := true, laidLooks := .later }
def NotationNewsUptoCardSaid : Prop := Claim7.holds Tryd.pinned (.plain (OpenSpec.upto notationNewsSpec)) notationNewsUptoCard

/-- THE SECOND FORM's CARD OF 'ablautlaw04.NotationUnits'. -/
def notationUnitsUptoCard : Claim7 := { stood := { row := notationUnitsUptoRow, standIns := [], harness := (true, "616d909e56f06f6d8ac362fa18cf70debe32c7f425b65b9a0e9e82f35a608580"), looks := false }, kinds := [], alts := [], laidByText := true, laidKinds := [.data, .pinned], laidTests := true, laidLooks := .later }
def NotationUnitsUptoCardSaid : Prop := Claim7.holds Tryd.pinned (.plain (OpenSpec.upto notationUnitsSpec)) notationUnitsUptoCard

/-- THE SECOND FORM's CARD OF 'ablautlaw04.NotationNil'. -/
def notationNilUptoCard : Claim7 := { stood := { row := notationNilUptoRow, standIns := [], harness := (true, "616d909e56f06f6d8ac362fa18cf70debe32c7f425b65b9a0e9e82f35a608580"), looks := false }, kinds := [], alts := [], laidByText := true, laidKinds := [.data, .pinned], laidTests := true, laidLooks := .later }
def NotationNilUptoCardSaid : Prop := Claim7.holds Tryd.pinned (.plain (OpenSpec.upto notationNilSpec)) notationNilUptoCard
end Rows
end Go.Proofs.YtohggdfplmlinaaDoor
