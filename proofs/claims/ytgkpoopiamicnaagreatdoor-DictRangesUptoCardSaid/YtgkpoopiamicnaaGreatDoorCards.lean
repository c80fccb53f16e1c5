/-
  DERIVED. GIVEN WITH THE SEED: THE CARDS: each row of YtgkpoopiamicnaaGreatDoorRows.lean that lists a variable, with what it lists TIED to the program's text (the seventh form; the later family's looks); each row that meets fmt, with fmt's text TOLD by the authors' own Lean function (tested against real Go, not proved from fmt's source: count such statements apart). THE CARD IS WHAT COUNTS. Prove the row's statement (the work); the ties are given (YtgkpoopiamicnaaGreatDoorTie.lean); close each card by the builder's one call (the guide's Derived/Test/ToyasCard.lean, 'card_holds'). Laid BY PROGRAM, IN A SANDBOX (cutbox-door.mjs). By AI agents, Wed Nov 11 2026. No macro, syntax, notation, axiom, sorry.
-/
import Derived.Test.YtgkpoopiamicnaaGreatDoorRows
import GoSem.ClaimSeven
namespace Go.Proofs.YtgkpoopiamicnaaGreatDoor
namespace Rows

/-- THE TIED CARD OF 'ablautlaw40.DictRanges'. -/
def dictRangesCard : Claim7 := { stood := { row := dictRangesRow, standIns := [], harness := (true, "add0d187039d0ecde6427926e443e8bdfab86951266bf381c1935cd4fb2dd545"), looks := false }, kinds := [], alts := [], laidByText := true, laidKinds := [.data, .pinned], laidTests := true, laidLooks := .later }
def DictRangesCardSaid : Prop := Claim7.holds Tryz.pinned (.plain (OpenSpec.ofChange dictRangesSpec)) dictRangesCard

/-- THE TIED CARD OF 'ablautlaw40.DictCopies'. -/
def dictCopiesCard : Claim7 := { stood := { row := dictCopiesRow, standIns := [], harness := (true, "add0d187039d0ecde6427926e443e8bdfab86951266bf381c1935cd4fb2dd545"), looks := false }, kinds := [], alts := [], laidByText := true, laidKinds := [.data, .pinned], laidTests := true, laidLooks := .later }
def DictCopiesCardSaid : Prop := Claim7.holds Tryz.pinned (.plain (OpenSpec.ofChange dictCopiesSpec)) dictCopiesCard

/-- THE TIED CARD OF 'ablautlaw40.DictPlays'. -/
def dictPlaysCard : Claim7 := { stood := { row := dictPlaysRow, standIns := [], harness := (true, "add0d187039d0ecde6427926e443e8bdfab86951266bf381c1935cd4fb2dd545"), looks := false }, kinds := [], alts := [], laidByText := true, laidKinds := [.data, .pinned], laidTests := true, laidLooks := .later }
def DictPlaysCardSaid : Prop := Claim7.holds Tryz.pinned (.plain (OpenSpec.ofChange dictPlaysSpec)) dictPlaysCard

/-- THE TIED CARD OF 'ablautlaw40.DictNil'. -/
def dictNilCard : Claim7 := { stood := { row := dictNilRow, standIns := [], harness := (true, "add0d187039d0ecde6427926e443e8bdfab86951266bf381c1935cd4fb2dd545"), looks := false }, kinds := [], alts := [], laidByText := true, laidKinds := [.data, .pinned], laidTests := true, laidLooks := .later }
def DictNilCardSaid : Prop := Claim7.holds Tryz.pinned (.plain (OpenSpec.ofChange dictNilSpec)) dictNilCard

/-- THE TIED CARD OF 'ablautlaw40.DictTexts'. -/
def dictTextsCard : Claim7 := { stood := { row := dictTextsRow, standIns := [], harness := (true, "add0d187039d0ecde6427926e443e8bdfab86951266bf381c1935cd4fb2dd545"), looks := false }, kinds := [], alts := [], laidByText := true, laidKinds := [.data, .pinned], laidTests := true, laidLooks := .later }
def DictTextsCardSaid : Prop := Claim7.holds Tryz.pinned (.plain (OpenSpec.ofChange dictTextsSpec)) dictTextsCard

/-- THE TIED CARD OF 'ablautlaw40.DictBack'. -/
def dictBackCard : Claim7 := { stood := { row := dictBackRow, standIns := [], harness := (true, "add0d187039d0ecde6427926e443e8bdfab86951266bf381c1935cd4fb2dd545"), looks := false }, kinds := [], alts := [], laidByText := true, laidKinds := [.data, .pinned], laidTests := true, laidLooks := .later }
def DictBackCardSaid : Prop := Claim7.holds Tryz.pinned (.plain (OpenSpec.ofChange dictBackSpec)) dictBackCard

/-- THE SECOND FORM's CARD OF 'ablautlaw40.DictRanges'. -/
def dictRangesUptoCard : Claim7 := { stood := { row := dictRangesUptoRow, standIns := [], harness := (true, "add0d187039d0ecde6427926e443e8bdfab86951266bf381c1935cd4fb2dd545"), looks := false }, kinds := [], alts := [], laidByText := true, laidKinds := [.data, .pinned], laidTests := true, laidLooks := .later }
def DictRangesUptoCardSaid : Prop := Claim7.holds Tryz.pinned (.plain (OpenSpec.upto dictRangesSpec)) dictRangesUptoCard

/-- THE SECOND FORM's CARD OF 'ablautlaw40.DictCopies'. -/
def dictCopiesUptoCard : Claim7 := { stood := { row := dictCopiesUptoRow, standIns := [], harness := (true, "add0d187039d0ecde6427926e443e8bdfab86951266bf381c1935cd4fb2dd545"), looks := false }, kinds := [], alts := [], laidByText := true, laidKinds := [.data, .pinned], laidTests := true, laidLooks := .later }
def DictCopiesUptoCardSaid : Prop := Claim7.holds Tryz.pinned (.plain (OpenSpec.upto dictCopiesSpec)) dictCopiesUptoCard

/-- THE SECOND FORM's CARD OF 'ablautlaw40.DictPlays'. -/
def dictPlaysUptoCard : Claim7 := { stood := { row := dictPlaysUptoRow, standIns := [], harness := (true, "add0d187039d0ecde6427926e443e8bdfab86951266bf381c1935cd4fb2dd545"), looks := false }, kinds := [], alts := [], laidByText := true, laidKinds := [.data, .pinned], laidTests := true, laidLooks := .later }
def DictPlaysUptoCardSaid : Prop := Claim7.holds Tryz.pinned (.plain (OpenSpec.upto dictPlaysSpec)) dictPlaysUptoCard

/-- THE SECOND FORM's CARD OF 'ablautlaw40.DictNil'. -/
def dictNilUptoCard : Claim7 := { stood := { row := dictNilUptoRow, standIns := [], harness := (true, "add0d187039d0ecde6427926e443e8bdfab86951266bf381c1935cd4fb2dd545"), looks := false }, kinds := [], alts := [], laidByText := true, laidKinds := [.data, .pinned], laidTests := true, laidLooks := .later }
def DictNilUptoCardSaid : Prop := Claim7.holds Tryz.pinned (.plain (OpenSpec.upto dictNilSpec)) dictNilUptoCard

/-- THE SECOND FORM's CARD OF 'ablautlaw40.DictTexts'. -/
def dictTextsUptoCard : Claim7 := { stood := { row := dictTextsUptoRow, standIns := [], harness := (true, "add0d187039d0ecde6427926e443e8bdfab86951266bf381c1935cd4fb2dd545"), looks := false }, kinds := [], alts := [], laidByText := true, laidKinds := [.data, .pinned], laidTests := true, laidLooks := .later }
def DictTextsUptoCardSaid : Prop := Claim7.holds Tryz.pinned (.plain (OpenSpec.upto dictTextsSpec)) dictTextsUptoCard

/-- THE SECOND FORM's CARD OF 'ablautlaw40.DictBack'. -/
def dictBackUptoCard : Claim7 := { stood := { row := dictBackUptoRow, standIns := [], harness := (true, "add0d187039d0ecde6427926e443e8bdfab86951266bf381c1935cd4fb2dd545"), looks := false }, kinds := [], alts := [], laidByText := true, laidKinds := [.data, .pinned], laidTests := true, laidLooks := .later }
def DictBackUptoCardSaid : Prop := Claim7.holds Tryz.pinned (.plain (OpenSpec.upto dictBackSpec)) dictBackUptoCard
end Rows
end Go.Proofs.YtgkpoopiamicnaaGreatDoor
