/-
  DERIVED. GIVEN WITH THE SEED: THE CARDS: each row of YtipfhamhiaeieaaDoorRows.lean that lists a variable, with what it lists TIED to the program's text (the seventh form; the later family's looks); each row that meets fmt, with fmt's text TOLD by the authors' own Lean function (tested against real Go, not proved from fmt's source: count such statements apart). THE CARD IS WHAT COUNTS. Prove the row's statement (the work); the ties are given (YtipfhamhiaeieaaDoorTie.lean); close each card by the builder's one call (the guide's Derived/Test/ToyasCard.lean, 'card_holds'). Laid BY PROGRAM, IN A SANDBOX (cutbox-door.mjs). By AI agents, Wed Nov 11 2026. No macro, syntax, notation, axiom, sorry.
-/
import Derived.Test.YtipfhamhiaeieaaDoorRows
import GoSem.ClaimSeven
namespace Go.Proofs.YtipfhamhiaeieaaDoor
namespace Rows

/-- THE TIED CARD OF 'ablautlaw43.PackLaws'. -/
def packLawsCard : Claim7 := { stood := { row := packLawsRow, standIns := [], harness := (true, "36b9a0b505d3b074d518ad26ac32069feafa20818dabd78e93679ce7b7993605"), looks := true }, kinds := [], alts := [], laidByText := true, laidKinds := [.data, .pinned], laidTests := true, laidLooks := .later }
def PackLawsCardSaid : Prop := Claim7.holds Tryd.pinned (.plain (OpenSpec.ofChange packLawsSpec)) packLawsCard

/-- THE TIED CARD OF 'ablautlaw43.PackWords'. -/
def packWordsCard : Claim7 := { stood := { row := packWordsRow, standIns := [], harness := (true, "36b9a0b505d3b074d518ad26ac32069feafa20818dabd78e93679ce7b7993605"), looks := true }, kinds := [], alts := [], laidByText := true, laidKinds := [.data, .pinned], laidTests := true, laidLooks := .later }
def PackWordsCardSaid : Prop := Claim7.holds Tryd.pinned (.plain (OpenSpec.ofChange packWordsSpec)) packWordsCard

/-- THE TIED CARD OF 'ablautlaw43.PackSums'. -/
def packSumsCard : Claim7 := { stood := { row := packSumsRow, standIns := [], harness := (true, "36b9a0b505d3b074d518ad26ac32069feafa20818dabd78e93679ce7b7993605"), looks := true }, kinds := [], alts := [], laidByText := true, laidKinds := [.data, .pinned], laidTests := true, laidLooks := .later }
def PackSumsCardSaid : Prop := Claim7.holds Tryd.pinned (.plain (OpenSpec.ofChange packSumsSpec)) packSumsCard

/-- THE TIED CARD OF 'ablautlaw43.PackSumOne'. -/
def packSumOneCard : Claim7 := { stood := { row := packSumOneRow, standIns := [], harness := (true, "36b9a0b505d3b074d518ad26ac32069feafa20818dabd78e93679ce7b7993605"), looks := true }, kinds := [], alts := [], laidByText := true, laidKinds := [.data, .pinned], laidTests := true, laidLooks := .later }
def PackSumOneCardSaid : Prop := Claim7.holds Tryd.pinned (.plain (OpenSpec.ofChange packSumOneSpec)) packSumOneCard

/-- THE TIED CARD OF 'ablautlaw43.PackWordBack'. -/
def packWordBackCard : Claim7 := { stood := { row := packWordBackRow, standIns := [], harness := (true, "36b9a0b505d3b074d518ad26ac32069feafa20818dabd78e93679ce7b7993605"), looks := true }, kinds := [], alts := [], laidByText := true, laidKinds := [.data, .pinned], laidTests := true, laidLooks := .later }
def PackWordBackCardSaid : Prop := Claim7.holds Tryd.pinned (.plain (OpenSpec.ofChange packWordBackSpec)) packWordBackCard

/-- THE TIED CARD OF 'ablautlaw43.PackNumbers'. -/
def packNumbersCard : Claim7 := { stood := { row := packNumbersRow, standIns := [], harness := (true, "36b9a0b505d3b074d518ad26ac32069feafa20818dabd78e93679ce7b7993605"), looks := true }, kinds := [], alts := [], laidByText := true, laidKinds := [.data, .pinned], laidTests := true, laidLooks := .later }
def PackNumbersCardSaid : Prop := Claim7.holds Tryd.pinned (.plain (OpenSpec.ofChange packNumbersSpec)) packNumbersCard

/-- THE TIED CARD OF 'ablautlaw43.PackReads'. -/
def packReadsCard : Claim7 := { stood := { row := packReadsRow, standIns := [], harness := (true, "36b9a0b505d3b074d518ad26ac32069feafa20818dabd78e93679ce7b7993605"), looks := true }, kinds := [], alts := [], laidByText := true, laidKinds := [.data, .pinned], laidTests := true, laidLooks := .later }
def PackReadsCardSaid : Prop := Claim7.holds Tryd.pinned (.plain (OpenSpec.ofChange packReadsSpec)) packReadsCard

/-- THE TIED CARD OF 'ablautlaw43.PackLawBack'. -/
def packLawBackCard : Claim7 := { stood := { row := packLawBackRow, standIns := [], harness := (true, "36b9a0b505d3b074d518ad26ac32069feafa20818dabd78e93679ce7b7993605"), looks := true }, kinds := [], alts := [], laidByText := true, laidKinds := [.data, .pinned], laidTests := true, laidLooks := .later }
def PackLawBackCardSaid : Prop := Claim7.holds Tryd.pinned (.plain (OpenSpec.ofChange packLawBackSpec)) packLawBackCard

/-- THE SECOND FORM's CARD OF 'ablautlaw43.PackLaws'. -/
def packLawsUptoCard : Claim7 := { stood := { row := packLawsUptoRow, standIns := [], harness := (true, "36b9a0b505d3b074d518ad26ac32069feafa20818dabd78e93679ce7b7993605"), looks := true }, kinds := [], alts := [], laidByText := true, laidKinds := [.data, .pinned], laidTests := true, laidLooks := .later }
def PackLawsUptoCardSaid : Prop := Claim7.holds Tryd.pinned (.plain (OpenSpec.upto packLawsSpec)) packLawsUptoCard

/-- THE SECOND FORM's CARD OF 'ablautlaw43.PackWords'. -/
def packWordsUptoCard : Claim7 := { stood := { row := packWordsUptoRow, standIns := [], harness := (true, "36b9a0b505d3b074d518ad26ac32069feafa20818dabd78e93679ce7b7993605"), looks := true }, kinds := [], alts := [], laidByText := true, laidKinds := [.data, .pinned], laidTests := true, laidLooks := .later }
def PackWordsUptoCardSaid : Prop := Claim7.holds Tryd.pinned (.plain (OpenSpec.upto packWordsSpec)) packWordsUptoCard

/-- THE SECOND FORM's CARD OF 'ablautlaw43.PackSums'. -/
def packSumsUptoCard : Claim7 := { stood := { row := packSumsUptoRow, standIns := [], harness := (true, "36b9a0b505d3b074d518ad26ac32069feafa20818dabd78e93679ce7b7993605"), looks := true }, kinds := [], alts := [], laidByText := true, laidKinds := [.data, .pinned], laidTests := true, laidLooks := .later }
def PackSumsUptoCardSaid : Prop := Claim7.holds Tryd.pinned (.plain (OpenSpec.upto packSumsSpec)) packSumsUptoCard

/-- THE SECOND FORM's CARD OF 'ablautlaw43.PackSumOne'. -/
def packSumOneUptoCard : Claim7 := { stood := { row := packSumOneUptoRow, standIns := [], harness := (true, "36b9a0b505d3b074d518ad26ac32069feafa20818dabd78e93679ce7b7993605"), looks := true }, kinds := [], alts := [], laidByText := true, laidKinds := [.data, .pinned], laidTests := true, laidLooks := .later }
def PackSumOneUptoCardSaid : Prop := Claim7.holds Tryd.pinned (.plain (OpenSpec.upto packSumOneSpec)) packSumOneUptoCard

/-- THE SECOND FORM's CARD OF 'ablautlaw43.PackWordBack'. -/
def packWordBackUptoCard : Claim7 := { stood := { row := packWordBackUptoRow, standIns := [], harness := (true, "36b9a0b505d3b074d518ad26ac32069feafa20818dabd78e93679ce7b7993605"), looks := true }, kinds := [], alts := [], laidByText := true, laidKinds := [.data, .pinned], laidTests := true, laidLooks := .later }
def PackWordBackUptoCardSaid : Prop := Claim7.holds Tryd.pinned (.plain (OpenSpec.upto packWordBackSpec)) packWordBackUptoCard

/-- THE SECOND FORM's CARD OF 'ablautlaw43.PackNumbers'. -/
def packNumbersUptoCard : Claim7 := { stood := { row := packNumbersUptoRow, standIns := [], harness := (true, "36b9a0b505d3b074d518ad26ac32069feafa20818dabd78e93679ce7b7993605"), looks := true }, kinds := [], alts := [], laidByText := true, laidKinds := [.data, .pinned], laidTests := true, laidLooks := .later }
def PackNumbersUptoCardSaid : Prop := Claim7.holds Tryd.pinned (.plain (OpenSpec.upto packNumbersSpec)) packNumbersUptoCard

/-- THE SECOND FORM's CARD OF 'ablautlaw43.PackReads'. -/
def packReadsUptoCard : Claim7 := { stood := { row := packReadsUptoRow, standIns := [], harness := (true, "36b9a0b505d3b074d518ad26ac32069feafa20818dabd78e93679ce7b7993605"), looks := true }, kinds := [], alts := [], laidByText := true, laidKinds := [.data, .pinned], laidTests := true, laidLooks := .later }
def PackReadsUptoCardSaid : Prop := Claim7.holds Tryd.pinned (.plain (OpenSpec.upto packReadsSpec)) packReadsUptoCard

/-- THE SECOND FORM's CARD OF 'ablautlaw43.PackLawBack'. -/
def packLawBackUptoCard : Claim7 := { stood := { row := packLawBackUptoRow, standIns := [], harness := (true, "36b9a0b505d3b074d518ad26ac32069feafa20818dabd78e93679ce7b7993605"), looks := true }, kinds := [], alts := [], laidByText := true, laidKinds := [.data, .pinned], laidTests := true, laidLooks := .later }
def PackLawBackUptoCardSaid : Prop := Claim7.holds Tryd.pinned (.plain (OpenSpec.upto packLawBackSpec)) packLawBackUptoCard
end Rows
end Go.Proofs.YtipfhamhiaeieaaDoor
