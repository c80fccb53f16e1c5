/-
  DERIVED. GIVEN WITH THE SEED: THE CARDS: each row of YtgimhjkijpcgjaaDoorRows.lean that lists a variable, with what it lists TIED to the program's text (the seventh form; the later family's looks); each row that meets fmt, with fmt's text TOLD by the authors' own Lean function (tested against real Go, not proved from fmt's source: count such statements apart). THE CARD IS WHAT COUNTS. Prove the row's statement (the work); the ties are given (YtgimhjkijpcgjaaDoorTie.lean); close each card by the builder's one call (the guide's Derived/Test/ToyasCard.lean, 'card_holds'). Laid BY PROGRAM, IN A SANDBOX (cutbox-door.mjs). By AI agents, Wed Nov 11 2026. No macro, syntax, notation, axiom, sorry.
-/
import Derived.Test.YtgimhjkijpcgjaaDoorRows
import GoSem.ClaimSeven
namespace Go.Proofs.YtgimhjkijpcgjaaDoor
namespace Rows

/-- THE TIED CARD OF 'ablautlaw37.IsoglossOne'. -/
def isoglossOneCard : Claim7 := { stood := { row := isoglossOneRow, standIns := [], harness := (true, "874a51305135645548399295e3ca9baeea8509443a9a07c3a1a41053b8885d1a"), looks := false }, kinds := [], alts := [], laidByText := true, laidKinds := [.data, .pinned], laidTests := true, laidLooks := .later }
def IsoglossOneCardSaid : Prop := Claim7.holds Tryd.pinned (.plain (OpenSpec.ofChange isoglossOneSpec)) isoglossOneCard

/-- THE TIED CARD OF 'ablautlaw37.IsoglossMany'. -/
def isoglossManyCard : Claim7 := { stood := { row := isoglossManyRow, standIns := [], harness := (true, "874a51305135645548399295e3ca9baeea8509443a9a07c3a1a41053b8885d1a"), looks := false }, kinds := [], alts := [], laidByText := true, laidKinds := [.data, .pinned], laidTests := true, laidLooks := .later }
def IsoglossManyCardSaid : Prop := Claim7.holds Tryd.pinned (.plain (OpenSpec.ofChange isoglossManySpec)) isoglossManyCard

/-- THE TIED CARD OF 'ablautlaw37.IsoglossNil'. -/
def isoglossNilCard : Claim7 := { stood := { row := isoglossNilRow, standIns := [], harness := (true, "874a51305135645548399295e3ca9baeea8509443a9a07c3a1a41053b8885d1a"), looks := false }, kinds := [], alts := [], laidByText := true, laidKinds := [.data, .pinned], laidTests := true, laidLooks := .later }
def IsoglossNilCardSaid : Prop := Claim7.holds Tryd.pinned (.plain (OpenSpec.ofChange isoglossNilSpec)) isoglossNilCard

/-- THE TIED CARD OF 'ablautlaw37.IsoglossRegions'. -/
def isoglossRegionsCard : Claim7 := { stood := { row := isoglossRegionsRow, standIns := [], harness := (true, "874a51305135645548399295e3ca9baeea8509443a9a07c3a1a41053b8885d1a"), looks := false }, kinds := [], alts := [], laidByText := true, laidKinds := [.data, .pinned], laidTests := true, laidLooks := .later }
def IsoglossRegionsCardSaid : Prop := Claim7.holds Tryd.pinned (.plain (OpenSpec.ofChange isoglossRegionsSpec)) isoglossRegionsCard

/-- THE TIED CARD OF 'ablautlaw37.IsoglossIslands'. -/
def isoglossIslandsCard : Claim7 := { stood := { row := isoglossIslandsRow, standIns := [], harness := (true, "874a51305135645548399295e3ca9baeea8509443a9a07c3a1a41053b8885d1a"), looks := false }, kinds := [], alts := [], laidByText := true, laidKinds := [.data, .pinned], laidTests := true, laidLooks := .later }
def IsoglossIslandsCardSaid : Prop := Claim7.holds Tryd.pinned (.plain (OpenSpec.ofChange isoglossIslandsSpec)) isoglossIslandsCard

/-- THE TIED CARD OF 'ablautlaw37.IsoglossDiffers'. -/
def isoglossDiffersCard : Claim7 := { stood := { row := isoglossDiffersRow, standIns := [], harness := (true, "874a51305135645548399295e3ca9baeea8509443a9a07c3a1a41053b8885d1a"), looks := false }, kinds := [], alts := [], laidByText := true, laidKinds := [.data, .pinned], laidTests := true, laidLooks := .later }
def IsoglossDiffersCardSaid : Prop := Claim7.holds Tryd.pinned (.plain (OpenSpec.ofChange isoglossDiffersSpec)) isoglossDiffersCard

/-- THE TIED CARD OF 'ablautlaw37.IsoglossKnown'. -/
def isoglossKnownCard : Claim7 := { stood := { row := isoglossKnownRow, standIns := [], harness := (true, "874a51305135645548399295e3ca9baeea8509443a9a07c3a1a41053b8885d1a"), looks := false }, kinds := [], alts := [], laidByText := true, laidKinds := [.data, .pinned], laidTests := true, laidLooks := .later }
def IsoglossKnownCardSaid : Prop := Claim7.holds Tryd.pinned (.plain (OpenSpec.ofChange isoglossKnownSpec)) isoglossKnownCard

/-- THE TIED CARD OF 'ablautlaw37.IsoglossBorders'. -/
def isoglossBordersCard : Claim7 := { stood := { row := isoglossBordersRow, standIns := [], harness := (true, "874a51305135645548399295e3ca9baeea8509443a9a07c3a1a41053b8885d1a"), looks := false }, kinds := [], alts := [], laidByText := true, laidKinds := [.data, .pinned], laidTests := true, laidLooks := .later }
def IsoglossBordersCardSaid : Prop := Claim7.holds Tryd.pinned (.plain (OpenSpec.ofChange isoglossBordersSpec)) isoglossBordersCard

/-- THE SECOND FORM's CARD OF 'ablautlaw37.IsoglossOne'. -/
def isoglossOneUptoCard : Claim7 := { stood := { row := isoglossOneUptoRow, standIns := [], harness := (true, "874a51305135645548399295e3ca9baeea8509443a9a07c3a1a41053b8885d1a"), looks := false }, kinds := [], alts := [], laidByText := true, laidKinds := [.data, .pinned], laidTests := true, laidLooks := .later }
def IsoglossOneUptoCardSaid : Prop := Claim7.holds Tryd.pinned (.plain (OpenSpec.upto isoglossOneSpec)) isoglossOneUptoCard

/-- THE SECOND FORM's CARD OF 'ablautlaw37.IsoglossMany'. -/
def isoglossManyUptoCard : Claim7 := { stood := { row := isoglossManyUptoRow, standIns := [], harness := (true, "874a51305135645548399295e3ca9baeea8509443a9a07c3a1a41053b8885d1a"), looks := false }, kinds := [], alts := [], laidByText := true, laidKinds := [.data, .pinned], laidTests := true, laidLooks := .later }
def IsoglossManyUptoCardSaid : Prop := Claim7.holds Tryd.pinned (.plain (OpenSpec.upto isoglossManySpec)) isoglossManyUptoCard

/-- THE SECOND FORM's CARD OF 'ablautlaw37.IsoglossNil'. -/
def isoglossNilUptoCard : Claim7 := { stood := { row := isoglossNilUptoRow, standIns := [], harness := (true, "874a51305135645548399295e3ca9baeea8509443a9a07c3a1a41053b8885d1a"), looks := false }, kinds := [], alts := [], laidByText := true, laidKinds := [.data, .pinned], laidTests := true, laidLooks := .later }
def IsoglossNilUptoCardSaid : Prop := Claim7.holds Tryd.pinned (.plain (OpenSpec.upto isoglossNilSpec)) isoglossNilUptoCard

/-- THE SECOND FORM's CARD OF 'ablautlaw37.IsoglossRegions'. -/
def isoglossRegionsUptoCard : Claim7 := { stood := { row := isoglossRegionsUptoRow, standIns := [], harness := (true, "874a51305135645548399295e3ca9baeea8509443a9a07c3a1a41053b8885d1a"), looks := false }, kinds := [], alts := [], laidByText := true, laidKinds := [.data, .pinned], laidTests := true, laidLooks := .later }
def IsoglossRegionsUptoCardSaid : Prop := Claim7.holds Tryd.pinned (.plain (OpenSpec.upto isoglossRegionsSpec)) isoglossRegionsUptoCard

/-- THE SECOND FORM's CARD OF 'ablautlaw37.IsoglossIslands'. -/
def isoglossIslandsUptoCard : Claim7 := { stood := { row := isoglossIslandsUptoRow, standIns := [], harness := (true, "874a51305135645548399295e3ca9baeea8509443a9a07c3a1a41053b8885d1a"), looks := false }, kinds := [], alts := [], laidByText := true, laidKinds := [.data, .pinned], laidTests := true, laidLooks := .later }
def IsoglossIslandsUptoCardSaid : Prop := Claim7.holds Tryd.pinned (.plain (OpenSpec.upto isoglossIslandsSpec)) isoglossIslandsUptoCard

/-- THE SECOND FORM's CARD OF 'ablautlaw37.IsoglossDiffers'. -/
def isoglossDiffersUptoCard : Claim7 := { stood := { row := isoglossDiffersUptoRow, standIns := [], harness := (true, "874a51305135645548399295e3ca9baeea8509443a9a07c3a1a41053b8885d1a"), looks := false }, kinds := [], alts := [], laidByText := true, laidKinds := [.data, .pinned], laidTests := true, laidLooks := .later }
def IsoglossDiffersUptoCardSaid : Prop := Claim7.holds Tryd.pinned (.plain (OpenSpec.upto isoglossDiffersSpec)) isoglossDiffersUptoCard

/-- THE SECOND FORM's CARD OF 'ablautlaw37.IsoglossKnown'. -/
def isoglossKnownUptoCard : Claim7 := { stood := { row := isoglossKnownUptoRow, standIns := [], harness := (true, "874a51305135645548399295e3ca9baeea8509443a9a07c3a1a41053b8885d1a"), looks := false }, kinds := [], alts := [], laidByText := true, laidKinds := [.data, .pinned], laidTests := true, laidLooks := .later }
def IsoglossKnownUptoCardSaid : Prop := Claim7.holds Tryd.pinned (.plain (OpenSpec.upto isoglossKnownSpec)) isoglossKnownUptoCard

/-- THE SECOND FORM's CARD OF 'ablautlaw37.IsoglossBorders'. -/
def isoglossBordersUptoCard : Claim7 := { stood := { row := isoglossBordersUptoRow, standIns := [], harness := (true, "874a51305135645548399295e3ca9baeea8509443a9a07c3a1a41053b8885d1a"), looks := false }, kinds := [], alts := [], laidByText := true, laidKinds := [.data, .pinned], laidTests := true, laidLooks := .later }
def IsoglossBordersUptoCardSaid : Prop := Claim7.holds Tryd.pinned (.plain (OpenSpec.upto isoglossBordersSpec)) isoglossBordersUptoCard
end Rows
end Go.Proofs.YtgimhjkijpcgjaaDoor
