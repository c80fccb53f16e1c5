/-
  DERIVED. GIVEN WITH THE SEED: THE CARDS: each row of YtcdpadggjkobjaaDoorRows.lean that lists a variable, with what it lists TIED to the program's text (the seventh form; the later family's looks); each row that meets fmt, with fmt's text TOLD by the authors' own Lean function (tested against real Go, not proved from fmt's source: count such statements apart). THE CARD IS WHAT COUNTS. Prove the row's statement (the work); the ties are given (YtcdpadggjkobjaaDoorTie.lean); close each card by the builder's one call (the guide's Derived/Test/ToyasCard.lean, 'card_holds'). Laid BY PROGRAM, IN A SANDBOX (cutbox-door.mjs). By AI agents, Wed Nov 11 2026. No macro, syntax, notation, axiom, sorry.
-/
import Derived.Test.YtcdpadggjkobjaaDoorRows
import GoSem.ClaimSeven
namespace Go.Proofs.YtcdpadggjkobjaaDoor
namespace Rows

/-- THE TIED CARD OF 'ablautlaw39.CollateReads'. -/
def collateReadsCard : Claim7 := { stood := { row := collateReadsRow, standIns := [], harness := (true, "65d935ddaf4da3948746cbeffd9404199a0dd8aaf2e1c179bfb08ba24e5fbd98"), looks := false }, kinds := [], alts := [], laidByText := true, laidKinds := [.data, .pinned], laidTests := true, laidLooks := .later }
def CollateReadsCardSaid : Prop := Claim7.holds Tryd.pinned (.plain (OpenSpec.ofChange collateReadsSpec)) collateReadsCard

/-- THE TIED CARD OF 'ablautlaw39.CollateOrders'. -/
def collateOrdersCard : Claim7 := { stood := { row := collateOrdersRow, standIns := [], harness := (true, "65d935ddaf4da3948746cbeffd9404199a0dd8aaf2e1c179bfb08ba24e5fbd98"), looks := false }, kinds := [], alts := [], laidByText := true, laidKinds := [.data, .pinned], laidTests := true, laidLooks := .later }
def CollateOrdersCardSaid : Prop := Claim7.holds Tryd.pinned (.plain (OpenSpec.ofChange collateOrdersSpec)) collateOrdersCard

/-- THE TIED CARD OF 'ablautlaw39.CollateGroups'. -/
def collateGroupsCard : Claim7 := { stood := { row := collateGroupsRow, standIns := [], harness := (true, "65d935ddaf4da3948746cbeffd9404199a0dd8aaf2e1c179bfb08ba24e5fbd98"), looks := false }, kinds := [], alts := [], laidByText := true, laidKinds := [.data, .pinned], laidTests := true, laidLooks := .later }
def CollateGroupsCardSaid : Prop := Claim7.holds Tryd.pinned (.plain (OpenSpec.ofChange collateGroupsSpec)) collateGroupsCard

/-- THE TIED CARD OF 'ablautlaw39.CollateNews'. -/
def collateNewsCard : Claim7 := { stood := { row := collateNewsRow, standIns := [], harness := (true, "65d935ddaf4da3948746cbeffd9404199a0dd8aaf2e1c179bfb08ba24e5fbd98"), looks := false }, kinds := [], alts := [], laidByText := true, laidKinds := [.data, .pinned], laidTests := true, laidLooks := .later }
def CollateNewsCardSaid : Prop := Claim7.holds Tryd.pinned (.plain (OpenSpec.ofChange collateNewsSpec)) collateNewsCard

/-- THE TIED CARD OF 'ablautlaw39.CollatePieces'. -/
def collatePiecesCard : Claim7 := { stood := { row := collatePiecesRow, standIns := [], harness := (true, "65d935ddaf4da3948746cbeffd9404199a0dd8aaf2e1c179bfb08ba24e5fbd98"), looks := false }, kinds := [], alts := [], laidByText := true, laidKinds := [.data, .pinned], laidTests := true, laidLooks := .later }
def CollatePiecesCardSaid : Prop := Claim7.holds Tryd.pinned (.plain (OpenSpec.ofChange collatePiecesSpec)) collatePiecesCard

/-- THE TIED CARD OF 'ablautlaw39.CollateChains'. -/
def collateChainsCard : Claim7 := { stood := { row := collateChainsRow, standIns := [], harness := (true, "65d935ddaf4da3948746cbeffd9404199a0dd8aaf2e1c179bfb08ba24e5fbd98"), looks := false }, kinds := [], alts := [], laidByText := true, laidKinds := [.data, .pinned], laidTests := true, laidLooks := .later }
def CollateChainsCardSaid : Prop := Claim7.holds Tryd.pinned (.plain (OpenSpec.ofChange collateChainsSpec)) collateChainsCard

/-- THE TIED CARD OF 'ablautlaw39.CollateLists'. -/
def collateListsCard : Claim7 := { stood := { row := collateListsRow, standIns := [], harness := (true, "65d935ddaf4da3948746cbeffd9404199a0dd8aaf2e1c179bfb08ba24e5fbd98"), looks := false }, kinds := [], alts := [], laidByText := true, laidKinds := [.data, .pinned], laidTests := true, laidLooks := .later }
def CollateListsCardSaid : Prop := Claim7.holds Tryd.pinned (.plain (OpenSpec.ofChange collateListsSpec)) collateListsCard

/-- THE TIED CARD OF 'ablautlaw39.CollateNil'. -/
def collateNilCard : Claim7 := { stood := { row := collateNilRow, standIns := [], harness := (true, "65d935ddaf4da3948746cbeffd9404199a0dd8aaf2e1c179bfb08ba24e5fbd98"), looks := false }, kinds := [], alts := [], laidByText := true, laidKinds := [.data, .pinned], laidTests := true, laidLooks := .later }
def CollateNilCardSaid : Prop := Claim7.holds Tryd.pinned (.plain (OpenSpec.ofChange collateNilSpec)) collateNilCard

/-- THE TIED CARD OF 'ablautlaw39.CollateHeads'. -/
def collateHeadsCard : Claim7 := { stood := { row := collateHeadsRow, standIns := [], harness := (true, "65d935ddaf4da3948746cbeffd9404199a0dd8aaf2e1c179bfb08ba24e5fbd98"), looks := false }, kinds := [], alts := [], laidByText := true, laidKinds := [.data, .pinned], laidTests := true, laidLooks := .later }
def CollateHeadsCardSaid : Prop := Claim7.holds Tryd.pinned (.plain (OpenSpec.ofChange collateHeadsSpec)) collateHeadsCard

/-- THE TIED CARD OF 'ablautlaw39.CollateLong'. -/
def collateLongCard : Claim7 := { stood := { row := collateLongRow, standIns := [], harness := (true, "65d935ddaf4da3948746cbeffd9404199a0dd8aaf2e1c179bfb08ba24e5fbd98"), looks := false }, kinds := [], alts := [], laidByText := true, laidKinds := [.data, .pinned], laidTests := true, laidLooks := .later }
def CollateLongCardSaid : Prop := Claim7.holds Tryd.pinned (.plain (OpenSpec.ofChange collateLongSpec)) collateLongCard

/-- THE SECOND FORM's CARD OF 'ablautlaw39.CollateReads'. -/
def collateReadsUptoCard : Claim7 := { stood := { row := collateReadsUptoRow, standIns := [], harness := (true, "65d935ddaf4da3948746cbeffd9404199a0dd8aaf2e1c179bfb08ba24e5fbd98"), looks := false }, kinds := [], alts := [], laidByText := true, laidKinds := [.data, .pinned], laidTests := true, laidLooks := .later }
def CollateReadsUptoCardSaid : Prop := Claim7.holds Tryd.pinned (.plain (OpenSpec.upto collateReadsSpec)) collateReadsUptoCard

/-- THE SECOND FORM's CARD OF 'ablautlaw39.CollateOrders'. -/
def collateOrdersUptoCard : Claim7 := { stood := { row := collateOrdersUptoRow, standIns := [], harness := (true, "65d935ddaf4da3948746cbeffd9404199a0dd8aaf2e1c179bfb08ba24e5fbd98"), looks := false }, kinds := [], alts := [], laidByText := true, laidKinds := [.data, .pinned], laidTests := true, laidLooks := .later }
def CollateOrdersUptoCardSaid : Prop := Claim7.holds Tryd.pinned (.plain (OpenSpec.upto collateOrdersSpec)) collateOrdersUptoCard

/-- THE SECOND FORM's CARD OF 'ablautlaw39.CollateGroups'. -/
def collateGroupsUptoCard : Claim7 := { stood := { row := collateGroupsUptoRow, standIns := [], harness := (true, "65d935ddaf4da3948746cbeffd9404199a0dd8aaf2e1c179bfb08ba24e5fbd98"), looks := false }, kinds := [], alts := [], laidByText := true, laidKinds := [.data, .pinned], laidTests := true, laidLooks := .later }
def CollateGroupsUptoCardSaid : Prop := Claim7.holds Tryd.pinned (.plain (OpenSpec.upto collateGroupsSpec)) collateGroupsUptoCard

/-- THE SECOND FORM's CARD OF 'ablautlaw39.CollateNews'. -/
def collateNewsUptoCard : Claim7 := { stood := { row := collateNewsUptoRow, standIns := [], harness := (true, "65d935ddaf4da3948746cbeffd9404199a0dd8aaf2e1c179bfb08ba24e5fbd98"), looks := false }, kinds := [], alts := [], laidByText := true, laidKinds := [.data, .pinned], laidTests := true, laidLooks := .later }
def CollateNewsUptoCardSaid : Prop := Claim7.holds Tryd.pinned (.plain (OpenSpec.upto collateNewsSpec)) collateNewsUptoCard

/-- THE SECOND FORM's CARD OF 'ablautlaw39.CollatePieces'. -/
def collatePiecesUptoCard : Claim7 := { stood := { row := collatePiecesUptoRow, standIns := [], harness := (true, "65d935ddaf4da3948746cbeffd9404199a0dd8aaf2e1c179bfb08ba24e5fbd98"), looks := false }, kinds := [], alts := [], laidByText := true, laidKinds := [.data, .pinned], laidTests := true, laidLooks := .later }
def CollatePiecesUptoCardSaid : Prop := Claim7.holds Tryd.pinned (.plain (OpenSpec.upto collatePiecesSpec)) collatePiecesUptoCard

/-- THE SECOND FORM's CARD OF 'ablautlaw39.CollateChains'. -/
def collateChainsUptoCard : Claim7 := { stood := { row := collateChainsUptoRow, standIns := [], harness := (true, "65d935ddaf4da3948746cbeffd9404199a0dd8aaf2e1c179bfb08ba24e5fbd98"), looks := false }, kinds := [], alts := [], laidByText := true, laidKinds := [.data, .pinned], laidTests := true, laidLooks := .later }
def CollateChainsUptoCardSaid : Prop := Claim7.holds Tryd.pinned (.plain (OpenSpec.upto collateChainsSpec)) collateChainsUptoCard

/-- THE SECOND FORM's CARD OF 'ablautlaw39.CollateLists'. -/
def collateListsUptoCard : Claim7 := { stood := { row := collateListsUptoRow, standIns := [], harness := (true, "65d935ddaf4da3948746cbeffd9404199a0dd8aaf2e1c179bfb08ba24e5fbd98"), looks := false }, kinds := [], alts := [], laidByText := true, laidKinds := [.data, .pinned], laidTests := true, laidLooks := .later }
def CollateListsUptoCardSaid : Prop := Claim7.holds Tryd.pinned (.plain (OpenSpec.upto collateListsSpec)) collateListsUptoCard

/-- THE SECOND FORM's CARD OF 'ablautlaw39.CollateNil'. -/
def collateNilUptoCard : Claim7 := { stood := { row := collateNilUptoRow, standIns := [], harness := (true, "65d935ddaf4da3948746cbeffd9404199a0dd8aaf2e1c179bfb08ba24e5fbd98"), looks := false }, kinds := [], alts := [], laidByText := true, laidKinds := [.data, .pinned], laidTests := true, laidLooks := .later }
def CollateNilUptoCardSaid : Prop := Claim7.holds Tryd.pinned (.plain (OpenSpec.upto collateNilSpec)) collateNilUptoCard

/-- THE SECOND FORM's CARD OF 'ablautlaw39.CollateHeads'. -/
def collateHeadsUptoCard : Claim7 := { stood := { row := collateHeadsUptoRow, standIns := [], harness := (true, "65d935ddaf4da3948746cbeffd9404199a0dd8aaf2e1c179bfb08ba24e5fbd98"), looks := false }, kinds := [], alts := [], laidByText := true, laidKinds := [.data, .pinned], laidTests := true, laidLooks := .later }
def CollateHeadsUptoCardSaid : Prop := Claim7.holds Tryd.pinned (.plain (OpenSpec.upto collateHeadsSpec)) collateHeadsUptoCard

/-- THE SECOND FORM's CARD OF 'ablautlaw39.CollateLong'. -/
def collateLongUptoCard : Claim7 := { stood := { row := collateLongUptoRow, standIns := [], harness := (true, "65d935ddaf4da3948746cbeffd9404199a0dd8aaf2e1c179bfb08ba24e5fbd98"), looks := false }, kinds := [], alts := [], laidByText := true, laidKinds := [.data, .pinned], laidTests := true, laidLooks := .later }
def CollateLongUptoCardSaid : Prop := Claim7.holds Tryd.pinned (.plain (OpenSpec.upto collateLongSpec)) collateLongUptoCard
end Rows
end Go.Proofs.YtcdpadggjkobjaaDoor
