/-
  DERIVED. GIVEN WITH THE SEED: THE CARDS: each row of YtohggdfplmlinaaGreatDoorRows.lean that lists a variable, with what it lists TIED to the program's text (the seventh form; the later family's looks); each row that meets fmt, with fmt's text TOLD by the authors' own Lean function (tested against real Go, not proved from fmt's source: count such statements apart). THE CARD IS WHAT COUNTS. Prove the row's statement (the work); the ties are given (YtohggdfplmlinaaGreatDoorTie.lean); close each card by the builder's one call (the guide's Derived/Test/ToyasCard.lean, 'card_holds'). Laid BY PROGRAM, IN A SANDBOX (cutbox-door.mjs). By AI agents, Wed Nov 11 2026. No macro, syntax, notation, axiom, sorry.
-/
import Derived.Test.YtohggdfplmlinaaGreatDoorRows
import GoSem.ClaimSeven
namespace Go.Proofs.YtohggdfplmlinaaGreatDoor
namespace Rows

/-- THE TIED CARD OF 'ablautlaw04.NotationPrints'. -/
def notationPrintsCard : Claim7 := { stood := { row := notationPrintsRow, standIns := [], harness := (true, "6370c206f3c77c5eac77327dc162b9623f07f65a6d73b93d00039d1c5f836d42"), looks := false }, kinds := [], alts := [], laidByText := true, laidKinds := [.data, .pinned], laidTests := true, laidLooks := .later }
def NotationPrintsCardSaid : Prop := Claim7.holds Tryz.pinned (.plain (OpenSpec.ofChange notationPrintsSpec)) notationPrintsCard

/-- THE TIED CARD OF 'ablautlaw04.NotationParses'. -/
def notationParsesCard : Claim7 := { stood := { row := notationParsesRow, standIns := [], harness := (true, "6370c206f3c77c5eac77327dc162b9623f07f65a6d73b93d00039d1c5f836d42"), looks := false }, kinds := [], alts := [], laidByText := true, laidKinds := [.data, .pinned], laidTests := true, laidLooks := .later }
def NotationParsesCardSaid : Prop := Claim7.holds Tryz.pinned (.plain (OpenSpec.ofChange notationParsesSpec)) notationParsesCard

/-- THE TIED CARD OF 'ablautlaw04.NotationNormals'. -/
def notationNormalsCard : Claim7 := { stood := { row := notationNormalsRow, standIns := [], harness := (true, "6370c206f3c77c5eac77327dc162b9623f07f65a6d73b93d00039d1c5f836d42"), looks := false }, kinds := [], alts := [], laidByText := true, laidKinds := [.data, .pinned], laidTests := true, laidLooks := .later }
def NotationNormalsCardSaid : Prop := Claim7.holds Tryz.pinned (.plain (OpenSpec.ofChange notationNormalsSpec)) notationNormalsCard

/-- THE SECOND FORM's CARD OF 'ablautlaw04.NotationPrints'. -/
def notationPrintsUptoCard : Claim7 := { stood := { row := notationPrintsUptoRow, standIns := [], harness := (true, "6370c206f3c77c5eac77327dc162b9623f07f65a6d73b93d00039d1c5f836d42"), looks := false }, kinds := [], alts := [], laidByText := true, laidKinds := [.data, .pinned], laidTests := true, laidLooks := .later }
def NotationPrintsUptoCardSaid : Prop := Claim7.holds Tryz.pinned (.plain (OpenSpec.upto notationPrintsSpec)) notationPrintsUptoCard

/-- THE SECOND FORM's CARD OF 'ablautlaw04.NotationParses'. -/
def notationParsesUptoCard : Claim7 := { stood := { row := notationParsesUptoRow, standIns := [], harness := (true, "6370c206f3c77c5eac77327dc162b9623f07f65a6d73b93d00039d1c5f836d42"), looks := false }, kinds := [], alts := [], laidByText := true, laidKinds := [.data, .pinned], laidTests := true, laidLooks := .later }
def NotationParsesUptoCardSaid : Prop := Claim7.holds Tryz.pinned (.plain (OpenSpec.upto notationParsesSpec)) notationParsesUptoCard

/-- THE SECOND FORM's CARD OF 'ablautlaw04.NotationNormals'. -/
def notationNormalsUptoCard : Claim7 := { stood := { row := notationNormalsUptoRow, standIns := [], harness := (true, "6370c206f3c77c5eac77327dc162b9623f07f65a6d73b93d00039d1c5f836d42"), looks := false }, kinds := [], alts := [], laidByText := true, laidKinds := [.data, .pinned], laidTests := true, laidLooks := .later }
def NotationNormalsUptoCardSaid : Prop := Claim7.holds Tryz.pinned (.plain (OpenSpec.upto notationNormalsSpec)) notationNormalsUptoCard
end Rows
end Go.Proofs.YtohggdfplmlinaaGreatDoor
