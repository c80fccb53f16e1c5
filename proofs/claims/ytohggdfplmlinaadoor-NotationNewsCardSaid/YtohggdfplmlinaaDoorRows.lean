/-
  NARROWER THAN 'FOR EVERY INPUT', by the rows' own cells (each row's printed sentence says how): NotationPlaces: laid · NotationStays: laid · NotationBack: laid · NotationNews: laid · NotationUnits: laid · NotationNil: laid.
  DERIVED. THE GIVEN ROWS OF THIS SEAT. 6 by the template 'for every input the law returns true; each argument reads behind the call as it read before'; 0 by the template 'total and deterministic' (their statements: YtohggdfplmlinaaDoorTotals.lean).
  GIVEN WITH THE SEED: the statements are not yours to turn. If you find one false, say at which input.
  Laid BY PROGRAM, IN A SANDBOX (cutbox-rows.mjs): the forced cells as the released guide's own fill.sh prints them over the translation 5f1a4660a071a8d7… (all of the seat's roots in one cut). By AI agents, Wed Nov 11 2026. No macro, syntax, notation, axiom, sorry.
-/
import Derived.Test.YtohggdfplmlinaaDoorChecked
import GoSem.PinnedTables
import GoSem.Claim
import GoSem.ClaimJoined
import GoSem.ClaimMapViews
import Derived.JoinedTies
import Derived.KernelRfl
namespace Go.Proofs.YtohggdfplmlinaaDoor
/- THE CELL 'sum', in the pinned program and in every row, IS THE sha256 OF THE DUMP (.gsa) THAT YtohggdfplmlinaaDoorProg.lean LOADS. Nothing in Lean hashes anything: it is a label: what it is worth is what the hold of that sum in a sandbox is worth. -/
noncomputable def Tryd.pinned : Pinned := { name := "ytohggdfplmlinaadoor", sum := "5f1a4660a071a8d78604fd47eef177293cf7ab7d1ee8ad0d27a15316642dbcee", checked := Tryd.checked }
namespace Rows
def none {H : Type} : Left H := { results := [], args := [] }

/- WHAT THE LISTED PACKAGE-LEVEL VARIABLES READ AS WHEN THE CALL BEGINS. Each datum BY PROGRAM (the guide's laid-datum.mjs) off the statement by which the dump's own 'gosem.cut.vars' lays the variable. In a bare row this is a premise. The card (YtohggdfplmlinaaDoorCards.lean) ties it to the program's text. -/
def laid_unicode_utf8_acceptRanges {H : Type} : DataW H := .agg [.agg [.lit (.int .u8 128), .lit (.int .u8 191)], .agg [.lit (.int .u8 160), .lit (.int .u8 191)], .agg [.lit (.int .u8 128), .lit (.int .u8 159)], .agg [.lit (.int .u8 144), .lit (.int .u8 191)], .agg [.lit (.int .u8 128), .lit (.int .u8 143)], .agg [.lit (.int .u8 0), .lit (.int .u8 0)], .agg [.lit (.int .u8 0), .lit (.int .u8 0)], .agg [.lit (.int .u8 0), .lit (.int .u8 0)], .agg [.lit (.int .u8 0), .lit (.int .u8 0)], .agg [.lit (.int .u8 0), .lit (.int .u8 0)], .agg [.lit (.int .u8 0), .lit (.int .u8 0)], .agg [.lit (.int .u8 0), .lit (.int .u8 0)], .agg [.lit (.int .u8 0), .lit (.int .u8 0)], .agg [.lit (.int .u8 0), .lit (.int .u8 0)], .agg [.lit (.int .u8 0), .lit (.int .u8 0)], .agg [.lit (.int .u8 0), .lit (.int .u8 0)]]
/-- One of Go's own tables, pinned by name: the form's constant. -/
def laid_unicode_utf8_first : DataW Unit := Go.Pinned.utf8First

/-- 'ablautlaw04.NotationPlaces': WHATEVER THE INPUT: true; the input reads as it did. -/
def notationPlacesSpec : ChangeSpec := { name := "notationPlaces", fn := fun _ => fun
  | [d1, d2, d3] => { results := [.lit (.bool true)], args := [d1, d2, d3] }
  | _ => none }
def notationPlacesRow : OpenClaim := { program := "ytohggdfplmlinaadoor", sum := "5f1a4660a071a8d78604fd47eef177293cf7ab7d1ee8ad0d27a15316642dbcee", func := "ablaut/ablautlaw04.NotationPlaces", spec := "notationPlaces", inPlace := ["internal/bytealg.IndexByteString", "internal/bytealg.IndexString", "internal/abi.NoEscape"], unfollowed := true, recurses := true, named := ["unicode/utf8.first", "unicode/utf8.acceptRanges", "internal/bytealg.MaxLen"], plainKeys := false, apart := false, laid := [("unicode/utf8.acceptRanges", laid_unicode_utf8_acceptRanges), ("unicode/utf8.first", laid_unicode_utf8_first)] }
def NotationPlacesSaid : Prop := notationPlacesRow.holds Tryd.pinned (OpenSpec.ofChange notationPlacesSpec)

/-- ITS FALSE NEIGHBOUR: 'it returns false'. Refute it at one input. -/
def notationPlacesWrong : ChangeSpec := { name := "notationPlaces", fn := fun _ => fun
  | [d1, d2, d3] => { results := [.lit (.bool false)], args := [d1, d2, d3] }
  | _ => none }
def NotationPlacesWrongFalsely : Prop := notationPlacesRow.holds Tryd.pinned (OpenSpec.ofChange notationPlacesWrong)

/-- 'ablautlaw04.NotationStays': WHATEVER THE INPUT: true; the input reads as it did. -/
def notationStaysSpec : ChangeSpec := { name := "notationStays", fn := fun _ => fun
  | [d1, d2, d3] => { results := [.lit (.bool true)], args := [d1, d2, d3] }
  | _ => none }
def notationStaysRow : OpenClaim := { program := "ytohggdfplmlinaadoor", sum := "5f1a4660a071a8d78604fd47eef177293cf7ab7d1ee8ad0d27a15316642dbcee", func := "ablaut/ablautlaw04.NotationStays", spec := "notationStays", inPlace := ["internal/bytealg.IndexByteString", "internal/bytealg.IndexString", "internal/abi.NoEscape"], unfollowed := true, recurses := true, named := ["unicode/utf8.first", "unicode/utf8.acceptRanges", "internal/bytealg.MaxLen"], plainKeys := false, apart := false, laid := [("unicode/utf8.acceptRanges", laid_unicode_utf8_acceptRanges), ("unicode/utf8.first", laid_unicode_utf8_first)] }
def NotationStaysSaid : Prop := notationStaysRow.holds Tryd.pinned (OpenSpec.ofChange notationStaysSpec)

/-- ITS FALSE NEIGHBOUR: 'it returns false'. Refute it at one input. -/
def notationStaysWrong : ChangeSpec := { name := "notationStays", fn := fun _ => fun
  | [d1, d2, d3] => { results := [.lit (.bool false)], args := [d1, d2, d3] }
  | _ => none }
def NotationStaysWrongFalsely : Prop := notationStaysRow.holds Tryd.pinned (OpenSpec.ofChange notationStaysWrong)

/-- 'ablautlaw04.NotationBack': WHATEVER THE INPUT: true; the input reads as it did. -/
def notationBackSpec : ChangeSpec := { name := "notationBack", fn := fun _ => fun
  | [d1, d2] => { results := [.lit (.bool true)], args := [d1, d2] }
  | _ => none }
def notationBackRow : OpenClaim := { program := "ytohggdfplmlinaadoor", sum := "5f1a4660a071a8d78604fd47eef177293cf7ab7d1ee8ad0d27a15316642dbcee", func := "ablaut/ablautlaw04.NotationBack", spec := "notationBack", inPlace := ["internal/bytealg.IndexByteString", "internal/bytealg.IndexString", "internal/abi.NoEscape"], unfollowed := true, recurses := true, named := ["unicode/utf8.first", "unicode/utf8.acceptRanges", "internal/bytealg.MaxLen"], plainKeys := false, apart := false, laid := [("unicode/utf8.acceptRanges", laid_unicode_utf8_acceptRanges), ("unicode/utf8.first", laid_unicode_utf8_first)] }
def NotationBackSaid : Prop := notationBackRow.holds Tryd.pinned (OpenSpec.ofChange notationBackSpec)

/-- ITS FALSE NEIGHBOUR: 'it returns false'. Refute it at one input. -/
def notationBackWrong : ChangeSpec := { name := "notationBack", fn := fun _ => fun
  | [d1, d2] => { results := [.lit (.bool false)], args := [d1, d2] }
  | _ => none }
def NotationBackWrongFalsely : Prop := notationBackRow.holds Tryd.pinned (OpenSpec.ofChange notationBackWrong)

/-- 'ablautlaw04.NotationNews': WHATEVER THE INPUT: true; the input reads as it did. -/
def notationNewsSpec : ChangeSpec := { name := "notationNews", fn := fun _ => fun
  | [d] => { results := [.lit (.bool true)], args := [d] }
  | _ => none }
def notationNewsRow : OpenClaim := { program := "ytohggdfplmlinaadoor", sum := "5f1a4660a071a8d78604fd47eef177293cf7ab7d1ee8ad0d27a15316642dbcee", func := "ablaut/ablautlaw04.NotationNews", spec := "notationNews", inPlace := ["internal/bytealg.IndexByteString", "internal/bytealg.IndexString", "internal/abi.NoEscape"], unfollowed := true, recurses := true, named := ["unicode/utf8.first", "unicode/utf8.acceptRanges", "internal/bytealg.MaxLen"], plainKeys := false, apart := false, laid := [("unicode/utf8.acceptRanges", laid_unicode_utf8_acceptRanges), ("unicode/utf8.first", laid_unicode_utf8_first)] }
def NotationNewsSaid : Prop := notationNewsRow.holds Tryd.pinned (OpenSpec.ofChange notationNewsSpec)

/-- ITS FALSE NEIGHBOUR: 'it returns false'. Refute it at one input. -/
def notationNewsWrong : ChangeSpec := { name := "notationNews", fn := fun _ => fun
  | [d] => { results := [.lit (.bool false)], args := [d] }
  | _ => none }
def NotationNewsWrongFalsely : Prop := notationNewsRow.holds Tryd.pinned (OpenSpec.ofChange notationNewsWrong)

/-- 'ablautlaw04.NotationUnits': WHATEVER THE INPUT: true; the input reads as it did. -/
def notationUnitsSpec : ChangeSpec := { name := "notationUnits", fn := fun _ => fun
  | [d1, d2] => { results := [.lit (.bool true)], args := [d1, d2] }
  | _ => none }
def notationUnitsRow : OpenClaim := { program := "ytohggdfplmlinaadoor", sum := "5f1a4660a071a8d78604fd47eef177293cf7ab7d1ee8ad0d27a15316642dbcee", func := "ablaut/ablautlaw04.NotationUnits", spec := "notationUnits", inPlace := ["internal/bytealg.IndexByteString", "internal/bytealg.IndexString", "internal/abi.NoEscape"], unfollowed := true, recurses := true, named := ["unicode/utf8.first", "unicode/utf8.acceptRanges", "internal/bytealg.MaxLen"], plainKeys := false, apart := false, laid := [("unicode/utf8.acceptRanges", laid_unicode_utf8_acceptRanges), ("unicode/utf8.first", laid_unicode_utf8_first)] }
def NotationUnitsSaid : Prop := notationUnitsRow.holds Tryd.pinned (OpenSpec.ofChange notationUnitsSpec)

/-- ITS FALSE NEIGHBOUR: 'it returns false'. Refute it at one input. -/
def notationUnitsWrong : ChangeSpec := { name := "notationUnits", fn := fun _ => fun
  | [d1, d2] => { results := [.lit (.bool false)], args := [d1, d2] }
  | _ => none }
def NotationUnitsWrongFalsely : Prop := notationUnitsRow.holds Tryd.pinned (OpenSpec.ofChange notationUnitsWrong)

/-- 'ablautlaw04.NotationNil': WHATEVER THE INPUT: true; the input reads as it did. -/
def notationNilSpec : ChangeSpec := { name := "notationNil", fn := fun _ => fun
  | [d1, d2, d3] => { results := [.lit (.bool true)], args := [d1, d2, d3] }
  | _ => none }
def notationNilRow : OpenClaim := { program := "ytohggdfplmlinaadoor", sum := "5f1a4660a071a8d78604fd47eef177293cf7ab7d1ee8ad0d27a15316642dbcee", func := "ablaut/ablautlaw04.NotationNil", spec := "notationNil", inPlace := ["internal/bytealg.IndexByteString", "internal/bytealg.IndexString", "internal/abi.NoEscape"], unfollowed := true, recurses := true, named := ["unicode/utf8.first", "unicode/utf8.acceptRanges", "internal/bytealg.MaxLen"], plainKeys := false, apart := false, laid := [("unicode/utf8.acceptRanges", laid_unicode_utf8_acceptRanges), ("unicode/utf8.first", laid_unicode_utf8_first)] }
def NotationNilSaid : Prop := notationNilRow.holds Tryd.pinned (OpenSpec.ofChange notationNilSpec)

/-- ITS FALSE NEIGHBOUR: 'it returns false'. Refute it at one input. -/
def notationNilWrong : ChangeSpec := { name := "notationNil", fn := fun _ => fun
  | [d1, d2, d3] => { results := [.lit (.bool false)], args := [d1, d2, d3] }
  | _ => none }
def NotationNilWrongFalsely : Prop := notationNilRow.holds Tryd.pinned (OpenSpec.ofChange notationNilWrong)

/- THE SECOND FORM. 'bulk': how many values and letters a reading holds, each counted each time it is reached (what is shared counts as often as it is met; a slice's spare places count too). A statement '..UptoSaid' is the law's where the arguments, and the package variables that the reading takes, are together of bulk at most 1048576: NARROWER than '..Said'. Prove '..Said' where nothing that the law and all that it calls make is longer than what came in: it says more and counts as full. Else prove '..UptoSaid'. A law counts once. -/
mutual
def uptoBulk {H : Type} : DataW H → Nat
  | .lit (.string bytes) => bytes.length + 1
  | .lit _ => 1
  | .nil => 1
  | .ptr d => uptoBulk d + 1
  | .slice elems spare => uptoBulkAll elems + uptoBulkAll spare + 1
  | .agg parts => uptoBulkAll parts + 1
  | .iface _ d => uptoBulk d + 1
  | .map entries => uptoBulkEntries entries + 1
  | .held _ => 1
def uptoBulkAll {H : Type} : List (DataW H) → Nat
  | [] => 0
  | d :: r => uptoBulk d + uptoBulkAll r
def uptoBulkEntries {H : Type} : List (Lit × DataW H) → Nat
  | [] => 0
  | x :: r => uptoBulkEntry x + uptoBulkEntries r
def uptoBulkEntry {H : Type} : Lit × DataW H → Nat
  | (.string bytes, d) => bytes.length + uptoBulk d + 1
  | (_, d) => uptoBulk d + 1
 end
def uptoSmall : (H : Type) → List (DataW H) → Bool := fun _ ds => decide (uptoBulkAll ds ≤ 1048576)
def OpenSpec.upto (s : _root_.Go.ChangeSpec) : _root_.Go.OpenSpec := { _root_.Go.OpenSpec.ofChange s with cond := some uptoSmall }

/-- 'ablautlaw04.NotationPlaces', WHERE WHAT IT READS IS OF BULK AT MOST 1048576: true; the input reads as it did. -/
def notationPlacesUptoRow : OpenClaim := { program := "ytohggdfplmlinaadoor", sum := "5f1a4660a071a8d78604fd47eef177293cf7ab7d1ee8ad0d27a15316642dbcee", func := "ablaut/ablautlaw04.NotationPlaces", spec := "notationPlaces", inPlace := ["internal/bytealg.IndexByteString", "internal/bytealg.IndexString", "internal/abi.NoEscape"], unfollowed := true, recurses := true, named := ["unicode/utf8.first", "unicode/utf8.acceptRanges", "internal/bytealg.MaxLen"], plainKeys := false, apart := false, laid := [("unicode/utf8.acceptRanges", laid_unicode_utf8_acceptRanges), ("unicode/utf8.first", laid_unicode_utf8_first)], narrowed := true }
def NotationPlacesUptoSaid : Prop := notationPlacesUptoRow.holds Tryd.pinned (OpenSpec.upto notationPlacesSpec)

/-- 'ablautlaw04.NotationStays', WHERE WHAT IT READS IS OF BULK AT MOST 1048576: true; the input reads as it did. -/
def notationStaysUptoRow : OpenClaim := { program := "ytohggdfplmlinaadoor", sum := "5f1a4660a071a8d78604fd47eef177293cf7ab7d1ee8ad0d27a15316642dbcee", func := "ablaut/ablautlaw04.NotationStays", spec := "notationStays", inPlace := ["internal/bytealg.IndexByteString", "internal/bytealg.IndexString", "internal/abi.NoEscape"], unfollowed := true, recurses := true, named := ["unicode/utf8.first", "unicode/utf8.acceptRanges", "internal/bytealg.MaxLen"], plainKeys := false, apart := false, laid := [("unicode/utf8.acceptRanges", laid_unicode_utf8_acceptRanges), ("unicode/utf8.first", laid_unicode_utf8_first)], narrowed := true }
def NotationStaysUptoSaid : Prop := notationStaysUptoRow.holds Tryd.pinned (OpenSpec.upto notationStaysSpec)

/-- 'ablautlaw04.NotationBack', WHERE WHAT IT READS IS OF BULK AT MOST 1048576: true; the input reads as it did. -/
def notationBackUptoRow : OpenClaim := { program := "ytohggdfplmlinaadoor", sum := "5f1a4660a071a8d78604fd47eef177293cf7ab7d1ee8ad0d27a15316642dbcee", func := "ablaut/ablautlaw04.NotationBack", spec := "notationBack", inPlace := ["internal/bytealg.IndexByteString", "internal/bytealg.IndexString", "internal/abi.NoEscape"], unfollowed := true, recurses := true, named := ["unicode/utf8.first", "unicode/utf8.acceptRanges", "internal/bytealg.MaxLen"], plainKeys := false, apart := false, laid := [("unicode/utf8.acceptRanges", laid_unicode_utf8_acceptRanges), ("unicode/utf8.first", laid_unicode_utf8_first)], narrowed := true }
def NotationBackUptoSaid : Prop := notationBackUptoRow.holds Tryd.pinned (OpenSpec.upto notationBackSpec)

/-- 'ablautlaw04.NotationNews', WHERE WHAT IT READS IS OF BULK AT MOST 1048576: true; the input reads as it did. -/
def notationNewsUptoRow : OpenClaim := { program := "ytohggdfplmlinaadoor", sum := "5f1a4660a071a8d78604fd47eef177293cf7ab7d1ee8ad0d27a15316642dbcee", func := "ablaut/ablautlaw04.NotationNews", spec := "notationNews", inPlace := ["internal/bytealg.IndexByteString", "internal/bytealg.IndexString", "internal/abi.NoEscape"], unfollowed := true, recurses := true, named := ["unicode/utf8.first", "unicode/utf8.acceptRanges", "internal/bytealg.MaxLen"], plainKeys := false, apart := false, laid := [("unicode/utf8.acceptRanges", laid_unicode_utf8_acceptRanges), ("unicode/utf8.first", laid_unicode_utf8_first)], narrowed := true }
def NotationNewsUptoSaid : Prop := notationNewsUptoRow.holds Tryd.pinned (OpenSpec.upto notationNewsSpec)

/-- 'ablautlaw04.NotationUnits', WHERE WHAT IT READS IS OF BULK AT MOST 1048576: true; the input reads as it did. -/
def notationUnitsUptoRow : OpenClaim := { program := "ytohggdfplmlinaadoor", sum := "5f1a4660a071a8d78604fd47eef177293cf7ab7d1ee8ad0d27a15316642dbcee", func := "ablaut/ablautlaw04.NotationUnits", spec := "notationUnits", inPlace := ["internal/bytealg.IndexByteString", "internal/bytealg.IndexString", "internal/abi.NoEscape"], unfollowed := true, recurses := true, named := ["unicode/utf8.first", "unicode/utf8.acceptRanges", "internal/bytealg.MaxLen"], plainKeys := false, apart := false, laid := [("unicode/utf8.acceptRanges", laid_unicode_utf8_acceptRanges), ("unicode/utf8.first", laid_unicode_utf8_first)], narrowed := true }
def NotationUnitsUptoSaid : Prop := notationUnitsUptoRow.holds Tryd.pinned (OpenSpec.upto notationUnitsSpec)

/-- 'ablautlaw04.NotationNil', WHERE WHAT IT READS IS OF BULK AT MOST 1048576: true; the input reads as it did. -/
def notationNilUptoRow : OpenClaim := { program := "ytohggdfplmlinaadoor", sum := "5f1a4660a071a8d78604fd47eef177293cf7ab7d1ee8ad0d27a15316642dbcee", func := "ablaut/ablautlaw04.NotationNil", spec := "notationNil", inPlace := ["internal/bytealg.IndexByteString", "internal/bytealg.IndexString", "internal/abi.NoEscape"], unfollowed := true, recurses := true, named := ["unicode/utf8.first", "unicode/utf8.acceptRanges", "internal/bytealg.MaxLen"], plainKeys := false, apart := false, laid := [("unicode/utf8.acceptRanges", laid_unicode_utf8_acceptRanges), ("unicode/utf8.first", laid_unicode_utf8_first)], narrowed := true }
def NotationNilUptoSaid : Prop := notationNilUptoRow.holds Tryd.pinned (OpenSpec.upto notationNilSpec)

end Rows
end Go.Proofs.YtohggdfplmlinaaDoor
