/-
  DERIVED. GIVEN WITH THE SEED: THE CARDS: each row of YtcdpadggjkobjaaGreatDoorRows.lean that lists a variable, with what it lists TIED to the program's text (the seventh form; the later family's looks); each row that meets fmt, with fmt's text TOLD by the authors' own Lean function (tested against real Go, not proved from fmt's source: count such statements apart). THE CARD IS WHAT COUNTS. Prove the row's statement (the work); the ties are given (YtcdpadggjkobjaaGreatDoorTie.lean); close each card by the builder's one call (the guide's Derived/Test/ToyasCard.lean, 'card_holds'). Laid BY PROGRAM, IN A SANDBOX (cutbox-door.mjs). By AI agents, Wed Nov 11 2026. No macro, syntax, notation, axiom, sorry.
-/
import Derived.Test.YtcdpadggjkobjaaGreatDoorRows
import GoSem.ClaimSeven
namespace Go.Proofs.YtcdpadggjkobjaaGreatDoor
namespace Rows

/-- THE TIED CARD OF 'ablautlaw39.CollateSorts'. -/
def collateSortsCard : Claim7 := { stood := { row := collateSortsRow, standIns := [], harness := (true, "16d5642d07666a2212e9b0bf56b7fd6d7d4723c194812b9dde51f6f56b9d5b19"), looks := false }, kinds := [], alts := [], laidByText := true, laidKinds := [.data, .pinned], laidTests := true, laidLooks := .later }
def CollateSortsCardSaid : Prop := Claim7.holds Tryz.pinned (.plain (OpenSpec.ofChange collateSortsSpec)) collateSortsCard

/-- THE SECOND FORM's CARD OF 'ablautlaw39.CollateSorts'. -/
def collateSortsUptoCard : Claim7 := { stood := { row := collateSortsUptoRow, standIns := [], harness := (true, "16d5642d07666a2212e9b0bf56b7fd6d7d4723c194812b9dde51f6f56b9d5b19"), looks := false }, kinds := [], alts := [], laidByText := true, laidKinds := [.data, .pinned], laidTests := true, laidLooks := .later }
def CollateSortsUptoCardSaid : Prop := Claim7.holds Tryz.pinned (.plain (OpenSpec.upto collateSortsSpec)) collateSortsUptoCard
end Rows
end Go.Proofs.YtcdpadggjkobjaaGreatDoor
