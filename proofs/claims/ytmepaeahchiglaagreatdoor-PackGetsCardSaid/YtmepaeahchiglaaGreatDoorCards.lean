/-
  DERIVED. GIVEN WITH THE SEED: THE CARDS: each row of YtmepaeahchiglaaGreatDoorRows.lean that lists a variable, with what it lists TIED to the program's text (the seventh form; the later family's looks); each row that meets fmt, with fmt's text TOLD by the authors' own Lean function (tested against real Go, not proved from fmt's source: count such statements apart). THE CARD IS WHAT COUNTS. Prove the row's statement (the work); the ties are given (YtmepaeahchiglaaGreatDoorTie.lean); close each card by the builder's one call (the guide's Derived/Test/ToyasCard.lean, 'card_holds'). Laid BY PROGRAM, IN A SANDBOX (cutbox-door.mjs). By AI agents, Wed Nov 11 2026. No macro, syntax, notation, axiom, sorry.
-/
import Derived.Test.YtmepaeahchiglaaGreatDoorRows
import GoSem.ClaimSeven
namespace Go.Proofs.YtmepaeahchiglaaGreatDoor
namespace Rows

/-- THE TIED CARD OF 'ablautlaw43.PackPuts'. -/
def packPutsCard : Claim7 := { stood := { row := packPutsRow, standIns := [], harness := (true, "1b5bf6b407010fd87a3861ef90be163d4f78798e68c1e8f788bb7dbeba1f11dd"), looks := true }, kinds := [], alts := [], laidByText := true, laidKinds := [.data, .pinned], laidTests := true, laidLooks := .later }
def PackPutsCardSaid : Prop := Claim7.holds Tryz.pinned (.plain (OpenSpec.ofChange packPutsSpec)) packPutsCard

/-- THE TIED CARD OF 'ablautlaw43.PackGets'. -/
def packGetsCard : Claim7 := { stood := { row := packGetsRow, standIns := [], harness := (true, "1b5bf6b407010fd87a3861ef90be163d4f78798e68c1e8f788bb7dbeba1f11dd"), looks := true }, kinds := [], alts := [], laidByText := true, laidKinds := [.data, .pinned], laidTests := true, laidLooks := .later }
def PackGetsCardSaid : Prop := Claim7.holds Tryz.pinned (.plain (OpenSpec.ofChange packGetsSpec)) packGetsCard

/-- THE TIED CARD OF 'ablautlaw43.PackDamaged'. -/
def packDamagedCard : Claim7 := { stood := { row := packDamagedRow, standIns := [], harness := (true, "1b5bf6b407010fd87a3861ef90be163d4f78798e68c1e8f788bb7dbeba1f11dd"), looks := true }, kinds := [], alts := [], laidByText := true, laidKinds := [.data, .pinned], laidTests := true, laidLooks := .later }
def PackDamagedCardSaid : Prop := Claim7.holds Tryz.pinned (.plain (OpenSpec.ofChange packDamagedSpec)) packDamagedCard

/-- THE TIED CARD OF 'ablautlaw43.PackBack'. -/
def packBackCard : Claim7 := { stood := { row := packBackRow, standIns := [], harness := (true, "1b5bf6b407010fd87a3861ef90be163d4f78798e68c1e8f788bb7dbeba1f11dd"), looks := true }, kinds := [], alts := [], laidByText := true, laidKinds := [.data, .pinned], laidTests := true, laidLooks := .later }
def PackBackCardSaid : Prop := Claim7.holds Tryz.pinned (.plain (OpenSpec.ofChange packBackSpec)) packBackCard

/-- THE TIED CARD OF 'ablautlaw43.PackAgain'. -/
def packAgainCard : Claim7 := { stood := { row := packAgainRow, standIns := [], harness := (true, "1b5bf6b407010fd87a3861ef90be163d4f78798e68c1e8f788bb7dbeba1f11dd"), looks := true }, kinds := [], alts := [], laidByText := true, laidKinds := [.data, .pinned], laidTests := true, laidLooks := .later }
def PackAgainCardSaid : Prop := Claim7.holds Tryz.pinned (.plain (OpenSpec.ofChange packAgainSpec)) packAgainCard

/-- THE SECOND FORM's CARD OF 'ablautlaw43.PackPuts'. -/
def packPutsUptoCard : Claim7 := { stood := { row := packPutsUptoRow, standIns := [], harness := (true, "1b5bf6b407010fd87a3861ef90be163d4f78798e68c1e8f788bb7dbeba1f11dd"), looks := true }, kinds := [], alts := [], laidByText := true, laidKinds := [.data, .pinned], laidTests := true, laidLooks := .later }
def PackPutsUptoCardSaid : Prop := Claim7.holds Tryz.pinned (.plain (OpenSpec.upto packPutsSpec)) packPutsUptoCard

/-- THE SECOND FORM's CARD OF 'ablautlaw43.PackGets'. -/
def packGetsUptoCard : Claim7 := { stood := { row := packGetsUptoRow, standIns := [], harness := (true, "1b5bf6b407010fd87a3861ef90be163d4f78798e68c1e8f788bb7dbeba1f11dd"), looks := true }, kinds := [], alts := [], laidByText := true, laidKinds := [.data, .pinned], laidTests := true, laidLooks := .later }
def PackGetsUptoCardSaid : Prop := Claim7.holds Tryz.pinned (.plain (OpenSpec.upto packGetsSpec)) packGetsUptoCard

/-- THE SECOND FORM's CARD OF 'ablautlaw43.PackDamaged'. -/
def packDamagedUptoCard : Claim7 := { stood := { row := packDamagedUptoRow, standIns := [], harness := (true, "1b5bf6b407010fd87a3861ef90be163d4f78798e68c1e8f788bb7dbeba1f11dd"), looks := true }, kinds := [], alts := [], laidByText := true, laidKinds := [.data, .pinned], laidTests := true, laidLooks := .later }
def PackDamagedUptoCardSaid : Prop := Claim7.holds Tryz.pinned (.plain (OpenSpec.upto packDamagedSpec)) packDamagedUptoCard

/-- THE SECOND FORM's CARD OF 'ablautlaw43.PackBack'. -/
def packBackUptoCard : Claim7 := { stood := { row := packBackUptoRow, standIns := [], harness := (true, "1b5bf6b407010fd87a3861ef90be163d4f78798e68c1e8f788bb7dbeba1f11dd"), looks := true }, kinds := [], alts := [], laidByText := true, laidKinds := [.data, .pinned], laidTests := true, laidLooks := .later }
def PackBackUptoCardSaid : Prop := Claim7.holds Tryz.pinned (.plain (OpenSpec.upto packBackSpec)) packBackUptoCard

/-- THE SECOND FORM's CARD OF 'ablautlaw43.PackAgain'. -/
def packAgainUptoCard : Claim7 := { stood := { row := packAgainUptoRow, standIns := [], harness := (true, "1b5bf6b407010fd87a3861ef90be163d4f78798e68c1e8f788bb7dbeba1f11dd"), looks := true }, kinds := [], alts := [], laidByText := true, laidKinds := [.data, .pinned], laidTests := true, laidLooks := .later }
def PackAgainUptoCardSaid : Prop := Claim7.holds Tryz.pinned (.plain (OpenSpec.upto packAgainSpec)) packAgainUptoCard
end Rows
end Go.Proofs.YtmepaeahchiglaaGreatDoor
