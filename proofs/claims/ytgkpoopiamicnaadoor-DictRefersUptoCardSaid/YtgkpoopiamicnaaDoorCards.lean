/-
  DERIVED. GIVEN WITH THE SEED: THE CARDS: each row of YtgkpoopiamicnaaDoorRows.lean that lists a variable, with what it lists TIED to the program's text (the seventh form; the later family's looks); each row that meets fmt, with fmt's text TOLD by the authors' own Lean function (tested against real Go, not proved from fmt's source: count such statements apart). THE CARD IS WHAT COUNTS. Prove the row's statement (the work); the ties are given (YtgkpoopiamicnaaDoorTie.lean); close each card by the builder's one call (the guide's Derived/Test/ToyasCard.lean, 'card_holds'). Laid BY PROGRAM, IN A SANDBOX (cutbox-door.mjs). By AI agents, Wed Nov 11 2026. No macro, syntax, notation, axiom, sorry.
-/
import Derived.Test.YtgkpoopiamicnaaDoorRows
import GoSem.ClaimSeven
namespace Go.Proofs.YtgkpoopiamicnaaDoor
namespace Rows

/-- THE TIED CARD OF 'ablautlaw40.DictReaches'. -/
def dictReachesCard : Claim7 := { stood := { row := dictReachesRow, standIns := [], harness := (true, "829f7eb2f6eae90601a067aa55dbda50391bfa4c4e15bd074fbf17ecf0440b31"), looks := false }, kinds := [], alts := [], laidByText := true, laidKinds := [.data, .pinned], laidTests := true, laidLooks := .later }
def DictReachesCardSaid : Prop := Claim7.holds Tryd.pinned (.plain (OpenSpec.ofChange dictReachesSpec)) dictReachesCard

/-- THE TIED CARD OF 'ablautlaw40.DictOrder'. -/
def dictOrderCard : Claim7 := { stood := { row := dictOrderRow, standIns := [], harness := (true, "829f7eb2f6eae90601a067aa55dbda50391bfa4c4e15bd074fbf17ecf0440b31"), looks := false }, kinds := [], alts := [], laidByText := true, laidKinds := [.data, .pinned], laidTests := true, laidLooks := .later }
def DictOrderCardSaid : Prop := Claim7.holds Tryd.pinned (.plain (OpenSpec.ofChange dictOrderSpec)) dictOrderCard

/-- THE TIED CARD OF 'ablautlaw40.DictRefers'. -/
def dictRefersCard : Claim7 := { stood := { row := dictRefersRow, standIns := [], harness := (true, "829f7eb2f6eae90601a067aa55dbda50391bfa4c4e15bd074fbf17ecf0440b31"), looks := false }, kinds := [], alts := [], laidByText := true, laidKinds := [.data, .pinned], laidTests := true, laidLooks := .later }
def DictRefersCardSaid : Prop := Claim7.holds Tryd.pinned (.plain (OpenSpec.ofChange dictRefersSpec)) dictRefersCard

/-- THE TIED CARD OF 'ablautlaw40.DictParts'. -/
def dictPartsCard : Claim7 := { stood := { row := dictPartsRow, standIns := [], harness := (true, "829f7eb2f6eae90601a067aa55dbda50391bfa4c4e15bd074fbf17ecf0440b31"), looks := false }, kinds := [], alts := [], laidByText := true, laidKinds := [.data, .pinned], laidTests := true, laidLooks := .later }
def DictPartsCardSaid : Prop := Claim7.holds Tryd.pinned (.plain (OpenSpec.ofChange dictPartsSpec)) dictPartsCard

/-- THE SECOND FORM's CARD OF 'ablautlaw40.DictReaches'. -/
def dictReachesUptoCard : Claim7 := { stood := { row := dictReachesUptoRow, standIns := [], harness := (true, "829f7eb2f6eae90601a067aa55dbda50391bfa4c4e15bd074fbf17ecf0440b31"), looks := false }, kinds := [], alts := [], laidByText := true, laidKinds := [.data, .pinned], laidTests := true, laidLooks := .later }
def DictReachesUptoCardSaid : Prop := Claim7.holds Tryd.pinned (.plain (OpenSpec.upto dictReachesSpec)) dictReachesUptoCard

/-- THE SECOND FORM's CARD OF 'ablautlaw40.DictOrder'. -/
def dictOrderUptoCard : Claim7 := { stood := { row := dictOrderUptoRow, standIns := [], harness := (true, "829f7eb2f6eae90601a067aa55dbda50391bfa4c4e15bd074fbf17ecf0440b31"), looks := false }, kinds := [], alts := [], laidByText := true, laidKinds := [.data, .pinned], laidTests := true, laidLooks := .later }
def DictOrderUptoCardSaid : Prop := Claim7.holds Tryd.pinned (.plain (OpenSpec.upto dictOrderSpec)) dictOrderUptoCard

/-- THE SECOND FORM's CARD OF 'ablautlaw40.DictRefers'. -/
def dictRefersUptoCard : Claim7 := { stood := { row := dictRefersUptoRow, standIns := [], harness := (true, "829f7eb2f6eae90601a067aa55dbda50391bfa4c4e15bd074fbf17ecf0440b31"), looks := false }, kinds := [], alts := [], laidByText := true, laidKinds := [.data, .pinned], laidTests := true, laidLooks := .later }
def DictRefersUptoCardSaid : Prop := Claim7.holds Tryd.pinned (.plain (OpenSpec.upto dictRefersSpec)) dictRefersUptoCard

/-- THE SECOND FORM's CARD OF 'ablautlaw40.DictParts'. -/
def dictPartsUptoCard : Claim7 := { stood := { row := dictPartsUptoRow, standIns := [], harness := (true, "829f7eb2f6eae90601a067aa55dbda50391bfa4c4e15bd074fbf17ecf0440b31"), looks := false }, kinds := [], alts := [], laidByText := true, laidKinds := [.data, .pinned], laidTests := true, laidLooks := .later }
def DictPartsUptoCardSaid : Prop := Claim7.holds Tryd.pinned (.plain (OpenSpec.upto dictPartsSpec)) dictPartsUptoCard
end Rows
end Go.Proofs.YtgkpoopiamicnaaDoor
