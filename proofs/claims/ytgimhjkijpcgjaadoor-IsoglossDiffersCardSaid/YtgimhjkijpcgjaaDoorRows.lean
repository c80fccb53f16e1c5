/-
  NARROWER THAN 'FOR EVERY INPUT', by the rows' own cells (each row's printed sentence says how): IsoglossOne: laid · IsoglossMany: laid · IsoglossNil: laid · IsoglossRegions: laid · IsoglossIslands: laid · IsoglossDiffers: laid · IsoglossKnown: laid · IsoglossBorders: laid.
  DERIVED. THE GIVEN ROWS OF THIS SEAT. 8 by the template 'for every input the law returns true; each argument reads behind the call as it read before'; 0 by the template 'total and deterministic' (their statements: YtgimhjkijpcgjaaDoorTotals.lean).
  GIVEN WITH THE SEED: the statements are not yours to turn. If you find one false, say at which input.
  Laid BY PROGRAM, IN A SANDBOX (cutbox-rows.mjs): the forced cells as the released guide's own fill.sh prints them over the translation 614001e1c6c776f1… (all of the seat's roots in one cut). By AI agents, Wed Nov 11 2026. No macro, syntax, notation, axiom, sorry.
-/
import Derived.Test.YtgimhjkijpcgjaaDoorChecked
import GoSem.PinnedTables
import GoSem.Claim
import GoSem.ClaimJoined
import GoSem.ClaimMapViews
import Derived.JoinedTies
import Derived.KernelRfl
namespace Go.Proofs.YtgimhjkijpcgjaaDoor
/- THE CELL 'sum', in the pinned program and in every row, IS THE sha256 OF THE DUMP (.gsa) THAT YtgimhjkijpcgjaaDoorProg.lean LOADS. Nothing in Lean hashes anything: it is a label: what it is worth is what the hold of that sum in a sandbox is worth. -/
noncomputable def Tryd.pinned : Pinned := { name := "ytgimhjkijpcgjaadoor", sum := "614001e1c6c776f1f1b7e3dd7a3f8ad66fadf294c7953ae10032bdfb57104e13", checked := Tryd.checked }
namespace Rows
def none {H : Type} : Left H := { results := [], args := [] }

/- WHAT THE LISTED PACKAGE-LEVEL VARIABLES READ AS WHEN THE CALL BEGINS. Each datum BY PROGRAM (the guide's laid-datum.mjs) off the statement by which the dump's own 'gosem.cut.vars' lays the variable. In a bare row this is a premise. The card (YtgimhjkijpcgjaaDoorCards.lean) ties it to the program's text. -/
def laid_unicode_utf8_acceptRanges {H : Type} : DataW H := .agg [.agg [.lit (.int .u8 128), .lit (.int .u8 191)], .agg [.lit (.int .u8 160), .lit (.int .u8 191)], .agg [.lit (.int .u8 128), .lit (.int .u8 159)], .agg [.lit (.int .u8 144), .lit (.int .u8 191)], .agg [.lit (.int .u8 128), .lit (.int .u8 143)], .agg [.lit (.int .u8 0), .lit (.int .u8 0)], .agg [.lit (.int .u8 0), .lit (.int .u8 0)], .agg [.lit (.int .u8 0), .lit (.int .u8 0)], .agg [.lit (.int .u8 0), .lit (.int .u8 0)], .agg [.lit (.int .u8 0), .lit (.int .u8 0)], .agg [.lit (.int .u8 0), .lit (.int .u8 0)], .agg [.lit (.int .u8 0), .lit (.int .u8 0)], .agg [.lit (.int .u8 0), .lit (.int .u8 0)], .agg [.lit (.int .u8 0), .lit (.int .u8 0)], .agg [.lit (.int .u8 0), .lit (.int .u8 0)], .agg [.lit (.int .u8 0), .lit (.int .u8 0)]]
/-- One of Go's own tables, pinned by name: the form's constant. -/
def laid_unicode_utf8_first : DataW Unit := Go.Pinned.utf8First

/-- 'ablautlaw37.IsoglossOne': WHATEVER THE INPUT: true; the input reads as it did. -/
def isoglossOneSpec : ChangeSpec := { name := "isoglossOne", fn := fun _ => fun
  | [d1, d2] => { results := [.lit (.bool true)], args := [d1, d2] }
  | _ => none }
def isoglossOneRow : OpenClaim := { program := "ytgimhjkijpcgjaadoor", sum := "614001e1c6c776f1f1b7e3dd7a3f8ad66fadf294c7953ae10032bdfb57104e13", func := "ablaut/ablautlaw37.IsoglossOne", spec := "isoglossOne", inPlace := ["internal/bytealg.IndexByteString", "internal/bytealg.IndexString"], unfollowed := true, recurses := true, named := ["unicode/utf8.first", "unicode/utf8.acceptRanges", "internal/bytealg.MaxLen"], apart := false, laid := [("unicode/utf8.acceptRanges", laid_unicode_utf8_acceptRanges), ("unicode/utf8.first", laid_unicode_utf8_first)] }
def IsoglossOneSaid : Prop := isoglossOneRow.holds Tryd.pinned (OpenSpec.ofChange isoglossOneSpec)

/-- ITS FALSE NEIGHBOUR: 'it returns false'. Refute it at one input. -/
def isoglossOneWrong : ChangeSpec := { name := "isoglossOne", fn := fun _ => fun
  | [d1, d2] => { results := [.lit (.bool false)], args := [d1, d2] }
  | _ => none }
def IsoglossOneWrongFalsely : Prop := isoglossOneRow.holds Tryd.pinned (OpenSpec.ofChange isoglossOneWrong)

/-- 'ablautlaw37.IsoglossMany': WHATEVER THE INPUT: true; the input reads as it did. -/
def isoglossManySpec : ChangeSpec := { name := "isoglossMany", fn := fun _ => fun
  | [d1, d2, d3, d4] => { results := [.lit (.bool true)], args := [d1, d2, d3, d4] }
  | _ => none }
def isoglossManyRow : OpenClaim := { program := "ytgimhjkijpcgjaadoor", sum := "614001e1c6c776f1f1b7e3dd7a3f8ad66fadf294c7953ae10032bdfb57104e13", func := "ablaut/ablautlaw37.IsoglossMany", spec := "isoglossMany", inPlace := ["internal/bytealg.IndexByteString", "internal/bytealg.IndexString"], unfollowed := true, recurses := true, named := ["unicode/utf8.first", "unicode/utf8.acceptRanges", "internal/bytealg.MaxLen"], apart := false, laid := [("unicode/utf8.acceptRanges", laid_unicode_utf8_acceptRanges), ("unicode/utf8.first", laid_unicode_utf8_first)] }
def IsoglossManySaid : Prop := isoglossManyRow.holds Tryd.pinned (OpenSpec.ofChange isoglossManySpec)

/-- ITS FALSE NEIGHBOUR: 'it returns false'. Refute it at one input. -/
def isoglossManyWrong : ChangeSpec := { name := "isoglossMany", fn := fun _ => fun
  | [d1, d2, d3, d4] => { results := [.lit (.bool false)], args := [d1, d2, d3, d4] }
  | _ => none }
def IsoglossManyWrongFalsely : Prop := isoglossManyRow.holds Tryd.pinned (OpenSpec.ofChange isoglossManyWrong)

/-- 'ablautlaw37.IsoglossNil': WHATEVER THE INPUT: true; the input reads as it did. -/
def isoglossNilSpec : ChangeSpec := { name := "isoglossNil", fn := fun _ => fun
  | [d1, d2] => { results := [.lit (.bool true)], args := [d1, d2] }
  | _ => none }
def isoglossNilRow : OpenClaim := { program := "ytgimhjkijpcgjaadoor", sum := "614001e1c6c776f1f1b7e3dd7a3f8ad66fadf294c7953ae10032bdfb57104e13", func := "ablaut/ablautlaw37.IsoglossNil", spec := "isoglossNil", inPlace := ["internal/bytealg.IndexByteString", "internal/bytealg.IndexString"], unfollowed := true, recurses := true, named := ["unicode/utf8.first", "unicode/utf8.acceptRanges", "internal/bytealg.MaxLen"], apart := false, laid := [("unicode/utf8.acceptRanges", laid_unicode_utf8_acceptRanges), ("unicode/utf8.first", laid_unicode_utf8_first)] }
def IsoglossNilSaid : Prop := isoglossNilRow.holds Tryd.pinned (OpenSpec.ofChange isoglossNilSpec)

/-- ITS FALSE NEIGHBOUR: 'it returns false'. Refute it at one input. -/
def isoglossNilWrong : ChangeSpec := { name := "isoglossNil", fn := fun _ => fun
  | [d1, d2] => { results := [.lit (.bool false)], args := [d1, d2] }
  | _ => none }
def IsoglossNilWrongFalsely : Prop := isoglossNilRow.holds Tryd.pinned (OpenSpec.ofChange isoglossNilWrong)

/-- 'ablautlaw37.IsoglossRegions': WHATEVER THE INPUT: true; the input reads as it did. -/
def isoglossRegionsSpec : ChangeSpec := { name := "isoglossRegions", fn := fun _ => fun
  | [d1, d2, d3] => { results := [.lit (.bool true)], args := [d1, d2, d3] }
  | _ => none }
def isoglossRegionsRow : OpenClaim := { program := "ytgimhjkijpcgjaadoor", sum := "614001e1c6c776f1f1b7e3dd7a3f8ad66fadf294c7953ae10032bdfb57104e13", func := "ablaut/ablautlaw37.IsoglossRegions", spec := "isoglossRegions", inPlace := ["internal/bytealg.IndexByteString", "internal/bytealg.IndexString"], unfollowed := true, recurses := true, named := ["unicode/utf8.first", "unicode/utf8.acceptRanges", "internal/bytealg.MaxLen"], apart := false, laid := [("unicode/utf8.acceptRanges", laid_unicode_utf8_acceptRanges), ("unicode/utf8.first", laid_unicode_utf8_first)] }
def IsoglossRegionsSaid : Prop := isoglossRegionsRow.holds Tryd.pinned (OpenSpec.ofChange isoglossRegionsSpec)

/-- ITS FALSE NEIGHBOUR: 'it returns false'. Refute it at one input. -/
def isoglossRegionsWrong : ChangeSpec := { name := "isoglossRegions", fn := fun _ => fun
  | [d1, d2, d3] => { results := [.lit (.bool false)], args := [d1, d2, d3] }
  | _ => none }
def IsoglossRegionsWrongFalsely : Prop := isoglossRegionsRow.holds Tryd.pinned (OpenSpec.ofChange isoglossRegionsWrong)

/-- 'ablautlaw37.IsoglossIslands': WHATEVER THE INPUT: true; the input reads as it did. -/
def isoglossIslandsSpec : ChangeSpec := { name := "isoglossIslands", fn := fun _ => fun
  | [d1, d2, d3] => { results := [.lit (.bool true)], args := [d1, d2, d3] }
  | _ => none }
def isoglossIslandsRow : OpenClaim := { program := "ytgimhjkijpcgjaadoor", sum := "614001e1c6c776f1f1b7e3dd7a3f8ad66fadf294c7953ae10032bdfb57104e13", func := "ablaut/ablautlaw37.IsoglossIslands", spec := "isoglossIslands", inPlace := ["internal/bytealg.IndexByteString", "internal/bytealg.IndexString"], unfollowed := true, recurses := true, named := ["unicode/utf8.first", "unicode/utf8.acceptRanges", "internal/bytealg.MaxLen"], apart := false, laid := [("unicode/utf8.acceptRanges", laid_unicode_utf8_acceptRanges), ("unicode/utf8.first", laid_unicode_utf8_first)] }
def IsoglossIslandsSaid : Prop := isoglossIslandsRow.holds Tryd.pinned (OpenSpec.ofChange isoglossIslandsSpec)

/-- ITS FALSE NEIGHBOUR: 'it returns false'. Refute it at one input. -/
def isoglossIslandsWrong : ChangeSpec := { name := "isoglossIslands", fn := fun _ => fun
  | [d1, d2, d3] => { results := [.lit (.bool false)], args := [d1, d2, d3] }
  | _ => none }
def IsoglossIslandsWrongFalsely : Prop := isoglossIslandsRow.holds Tryd.pinned (OpenSpec.ofChange isoglossIslandsWrong)

/-- 'ablautlaw37.IsoglossDiffers': WHATEVER THE INPUT: true; the input reads as it did. -/
def isoglossDiffersSpec : ChangeSpec := { name := "isoglossDiffers", fn := fun _ => fun
  | [d1, d2, d3, d4, d5] => { results := [.lit (.bool true)], args := [d1, d2, d3, d4, d5] }
  | _ => none }
def isoglossDiffersRow : OpenClaim := { program := "ytgimhjkijpcgjaadoor", sum := "614001e1c6c776f1f1b7e3dd7a3f8ad66fadf294c7953ae10032bdfb57104e13", func := "ablaut/ablautlaw37.IsoglossDiffers", spec := "isoglossDiffers", inPlace := ["internal/bytealg.IndexByteString", "internal/bytealg.IndexString"], unfollowed := true, recurses := true, named := ["unicode/utf8.first", "unicode/utf8.acceptRanges", "internal/bytealg.MaxLen"], apart := false, laid := [("unicode/utf8.acceptRanges", laid_unicode_utf8_acceptRanges), ("unicode/utf8.first", laid_unicode_utf8_first)] }
def IsoglossDiffersSaid : Prop := isoglossDiffersRow.holds Tryd.pinned (OpenSpec.ofChange isoglossDiffersSpec)

/-- ITS FALSE NEIGHBOUR: 'it returns false'. Refute it at one input. -/
def isoglossDiffersWrong : ChangeSpec := { name := "isoglossDiffers", fn := fun _ => fun
  | [d1, d2, d3, d4, d5] => { results := [.lit (.bool false)], args := [d1, d2, d3, d4, d5] }
  | _ => none }
def IsoglossDiffersWrongFalsely : Prop := isoglossDiffersRow.holds Tryd.pinned (OpenSpec.ofChange isoglossDiffersWrong)

/-- 'ablautlaw37.IsoglossKnown': WHATEVER THE INPUT: true; the input reads as it did. -/
def isoglossKnownSpec : ChangeSpec := { name := "isoglossKnown", fn := fun _ => fun
  | [] => { results := [.lit (.bool true)], args := [] }
  | _ => none }
def isoglossKnownRow : OpenClaim := { program := "ytgimhjkijpcgjaadoor", sum := "614001e1c6c776f1f1b7e3dd7a3f8ad66fadf294c7953ae10032bdfb57104e13", func := "ablaut/ablautlaw37.IsoglossKnown", spec := "isoglossKnown", inPlace := ["internal/bytealg.IndexByteString", "internal/bytealg.IndexString"], unfollowed := true, recurses := true, named := ["unicode/utf8.first", "unicode/utf8.acceptRanges", "internal/bytealg.MaxLen"], apart := false, laid := [("unicode/utf8.acceptRanges", laid_unicode_utf8_acceptRanges), ("unicode/utf8.first", laid_unicode_utf8_first)] }
def IsoglossKnownSaid : Prop := isoglossKnownRow.holds Tryd.pinned (OpenSpec.ofChange isoglossKnownSpec)

/-- ITS FALSE NEIGHBOUR: 'it returns false'. Refute it at one input. -/
def isoglossKnownWrong : ChangeSpec := { name := "isoglossKnown", fn := fun _ => fun
  | [] => { results := [.lit (.bool false)], args := [] }
  | _ => none }
def IsoglossKnownWrongFalsely : Prop := isoglossKnownRow.holds Tryd.pinned (OpenSpec.ofChange isoglossKnownWrong)

/-- 'ablautlaw37.IsoglossBorders': WHATEVER THE INPUT: true; the input reads as it did. -/
def isoglossBordersSpec : ChangeSpec := { name := "isoglossBorders", fn := fun _ => fun
  | [d1, d2, d3] => { results := [.lit (.bool true)], args := [d1, d2, d3] }
  | _ => none }
def isoglossBordersRow : OpenClaim := { program := "ytgimhjkijpcgjaadoor", sum := "614001e1c6c776f1f1b7e3dd7a3f8ad66fadf294c7953ae10032bdfb57104e13", func := "ablaut/ablautlaw37.IsoglossBorders", spec := "isoglossBorders", inPlace := ["internal/bytealg.IndexByteString", "internal/bytealg.IndexString"], unfollowed := true, recurses := true, named := ["unicode/utf8.first", "unicode/utf8.acceptRanges", "internal/bytealg.MaxLen"], apart := false, laid := [("unicode/utf8.acceptRanges", laid_unicode_utf8_acceptRanges), ("unicode/utf8.first", laid_unicode_utf8_first)] }
def IsoglossBordersSaid : Prop := isoglossBordersRow.holds Tryd.pinned (OpenSpec.ofChange isoglossBordersSpec)

/-- ITS FALSE NEIGHBOUR: 'it returns false'. Refute it at one input. -/
def isoglossBordersWrong : ChangeSpec := { name := "isoglossBorders", fn := fun _ => fun
  | [d1, d2, d3] => { results := [.lit (.bool false)], args := [d1, d2, d3] }
  | _ => none }
def IsoglossBordersWrongFalsely : Prop := isoglossBordersRow.holds Tryd.pinned (OpenSpec.ofChange isoglossBordersWrong)

/- THE SECOND FORM. 'bulk': how many values and letters a reading holds, each counted each time it is reached (what is shared counts as often as it is met; a slice's spare places count too). A statement '..UptoSaid' is the law's where the arguments, and the package variables that the reading takes, are together of bulk at most 1048576: NARROWER than '..Said'. Prove '..Said' where nothing that the law and all that it calls make is longer than what came in: it says more and counts as full. Else prove '..UptoSaid'. A law counts once. -/
mutual
def uptoBulk {H : Type} : DataW H → Nat
  | .lit (.string bytes) => bytes.length + 1
  | .lit _ => 1
  | .nil => 1
  | .ptr d => uptoBulk d + 1
  | .slice elems spare => uptoBulkAll elems + uptoBulkAll spare + 1
  | .agg parts => uptoBulkAll parts + 1
  | .iface _ d => uptoBulk d + 1
  | .map entries => uptoBulkEntries entries + 1
  | .held _ => 1
def uptoBulkAll {H : Type} : List (DataW H) → Nat
  | [] => 0
  | d :: r => uptoBulk d + uptoBulkAll r
def uptoBulkEntries {H : Type} : List (Lit × DataW H) → Nat
  | [] => 0
  | x :: r => uptoBulkEntry x + uptoBulkEntries r
def uptoBulkEntry {H : Type} : Lit × DataW H → Nat
  | (.string bytes, d) => bytes.length + uptoBulk d + 1
  | (_, d) => uptoBulk d + 1
 end
def uptoSmall : (H : Type) → List (DataW H) → Bool := fun _ ds => decide (uptoBulkAll ds ≤ 1048576)
def OpenSpec.upto (s : _root_.Go.ChangeSpec) : _root_.Go.OpenSpec := { _root_.Go.OpenSpec.ofChange s with cond := some uptoSmall }

/-- 'ablautlaw37.IsoglossOne', WHERE WHAT IT READS IS OF BULK AT MOST 1048576: true; the input reads as it did. -/
def isoglossOneUptoRow : OpenClaim := { program := "ytgimhjkijpcgjaadoor", sum := "614001e1c6c776f1f1b7e3dd7a3f8ad66fadf294c7953ae10032bdfb57104e13", func := "ablaut/ablautlaw37.IsoglossOne", spec := "isoglossOne", inPlace := ["internal/bytealg.IndexByteString", "internal/bytealg.IndexString"], unfollowed := true, recurses := true, named := ["unicode/utf8.first", "unicode/utf8.acceptRanges", "internal/bytealg.MaxLen"], apart := false, laid := [("unicode/utf8.acceptRanges", laid_unicode_utf8_acceptRanges), ("unicode/utf8.first", laid_unicode_utf8_first)], narrowed := true }
def IsoglossOneUptoSaid : Prop := isoglossOneUptoRow.holds Tryd.pinned (OpenSpec.upto isoglossOneSpec)

/-- 'ablautlaw37.IsoglossMany', WHERE WHAT IT READS IS OF BULK AT MOST 1048576: true; the input reads as it did. -/
def isoglossManyUptoRow : OpenClaim := { program := "ytgimhjkijpcgjaadoor", sum := "614001e1c6c776f1f1b7e3dd7a3f8ad66fadf294c7953ae10032bdfb57104e13", func := "ablaut/ablautlaw37.IsoglossMany", spec := "isoglossMany", inPlace := ["internal/bytealg.IndexByteString", "internal/bytealg.IndexString"], unfollowed := true, recurses := true, named := ["unicode/utf8.first", "unicode/utf8.acceptRanges", "internal/bytealg.MaxLen"], apart := false, laid := [("unicode/utf8.acceptRanges", laid_unicode_utf8_acceptRanges), ("unicode/utf8.first", laid_unicode_utf8_first)], narrowed := true }
def IsoglossManyUptoSaid : Prop := isoglossManyUptoRow.holds Tryd.pinned (OpenSpec.upto isoglossManySpec)

/-- 'ablautlaw37.IsoglossNil', WHERE WHAT IT READS IS OF BULK AT MOST 1048576: true; the input reads as it did. -/
def isoglossNilUptoRow : OpenClaim := { program := "ytgimhjkijpcgjaadoor", sum := "614001e1c6c776f1f1b7e3dd7a3f8ad66fadf294c7953ae10032bdfb57104e13", func := "ablaut/ablautlaw37.IsoglossNil", spec := "isoglossNil", inPlace := ["internal/bytealg.IndexByteString", "internal/bytealg.IndexString"], unfollowed := true, recurses := true, named := ["unicode/utf8.first", "unicode/utf8.acceptRanges", "internal/bytealg.MaxLen"], apart := false, laid := [("unicode/utf8.acceptRanges", laid_unicode_utf8_acceptRanges), ("unicode/utf8.first", laid_unicode_utf8_first)], narrowed := true }
def IsoglossNilUptoSaid : Prop := isoglossNilUptoRow.holds Tryd.pinned (OpenSpec.upto isoglossNilSpec)

/-- 'ablautlaw37.IsoglossRegions', WHERE WHAT IT READS IS OF BULK AT MOST 1048576: true; the input reads as it did. -/
def isoglossRegionsUptoRow : OpenClaim := { program := "ytgimhjkijpcgjaadoor", sum := "614001e1c6c776f1f1b7e3dd7a3f8ad66fadf294c7953ae10032bdfb57104e13", func := "ablaut/ablautlaw37.IsoglossRegions", spec := "isoglossRegions", inPlace := ["internal/bytealg.IndexByteString", "internal/bytealg.IndexString"], unfollowed := true, recurses := true, named := ["unicode/utf8.first", "unicode/utf8.acceptRanges", "internal/bytealg.MaxLen"], apart := false, laid := [("unicode/utf8.acceptRanges", laid_unicode_utf8_acceptRanges), ("unicode/utf8.first", laid_unicode_utf8_first)], narrowed := true }
def IsoglossRegionsUptoSaid : Prop := isoglossRegionsUptoRow.holds Tryd.pinned (OpenSpec.upto isoglossRegionsSpec)

/-- 'ablautlaw37.IsoglossIslands', WHERE WHAT IT READS IS OF BULK AT MOST 1048576: true; the input reads as it did. -/
def isoglossIslandsUptoRow : OpenClaim := { program := "ytgimhjkijpcgjaadoor", sum := "614001e1c6c776f1f1b7e3dd7a3f8ad66fadf294c7953ae10032bdfb57104e13", func := "ablaut/ablautlaw37.IsoglossIslands", spec := "isoglossIslands", inPlace := ["internal/bytealg.IndexByteString", "internal/bytealg.IndexString"], unfollowed := true, recurses := true, named := ["unicode/utf8.first", "unicode/utf8.acceptRanges", "internal/bytealg.MaxLen"], apart := false, laid := [("unicode/utf8.acceptRanges", laid_unicode_utf8_acceptRanges), ("unicode/utf8.first", laid_unicode_utf8_first)], narrowed := true }
def IsoglossIslandsUptoSaid : Prop := isoglossIslandsUptoRow.holds Tryd.pinned (OpenSpec.upto isoglossIslandsSpec)

/-- 'ablautlaw37.IsoglossDiffers', WHERE WHAT IT READS IS OF BULK AT MOST 1048576: true; the input reads as it did. -/
def isoglossDiffersUptoRow : OpenClaim := { program := "ytgimhjkijpcgjaadoor", sum := "614001e1c6c776f1f1b7e3dd7a3f8ad66fadf294c7953ae10032bdfb57104e13", func := "ablaut/ablautlaw37.IsoglossDiffers", spec := "isoglossDiffers", inPlace := ["internal/bytealg.IndexByteString", "internal/bytealg.IndexString"], unfollowed := true, recurses := true, named := ["unicode/utf8.first", "unicode/utf8.acceptRanges", "internal/bytealg.MaxLen"], apart := false, laid := [("unicode/utf8.acceptRanges", laid_unicode_utf8_acceptRanges), ("unicode/utf8.first", laid_unicode_utf8_first)], narrowed := true }
def IsoglossDiffersUptoSaid : Prop := isoglossDiffersUptoRow.holds Tryd.pinned (OpenSpec.upto isoglossDiffersSpec)

/-- 'ablautlaw37.IsoglossKnown', WHERE WHAT IT READS IS OF BULK AT MOST 1048576: true; the input reads as it did. -/
def isoglossKnownUptoRow : OpenClaim := { program := "ytgimhjkijpcgjaadoor", sum := "614001e1c6c776f1f1b7e3dd7a3f8ad66fadf294c7953ae10032bdfb57104e13", func := "ablaut/ablautlaw37.IsoglossKnown", spec := "isoglossKnown", inPlace := ["internal/bytealg.IndexByteString", "internal/bytealg.IndexString"], unfollowed := true, recurses := true, named := ["unicode/utf8.first", "unicode/utf8.acceptRanges", "internal/bytealg.MaxLen"], apart := false, laid := [("unicode/utf8.acceptRanges", laid_unicode_utf8_acceptRanges), ("unicode/utf8.first", laid_unicode_utf8_first)], narrowed := true }
def IsoglossKnownUptoSaid : Prop := isoglossKnownUptoRow.holds Tryd.pinned (OpenSpec.upto isoglossKnownSpec)

/-- 'ablautlaw37.IsoglossBorders', WHERE WHAT IT READS IS OF BULK AT MOST 1048576: true; the input reads as it did. -/
def isoglossBordersUptoRow : OpenClaim := { program := "ytgimhjkijpcgjaadoor", sum := "614001e1c6c776f1f1b7e3dd7a3f8ad66fadf294c7953ae10032bdfb57104e13", func := "ablaut/ablautlaw37.IsoglossBorders", spec := "isoglossBorders", inPlace := ["internal/bytealg.IndexByteString", "internal/bytealg.IndexString"], unfollowed := true, recurses := true, named := ["unicode/utf8.first", "unicode/utf8.acceptRanges", "internal/bytealg.MaxLen"], apart := false, laid := [("unicode/utf8.acceptRanges", laid_unicode_utf8_acceptRanges), ("unicode/utf8.first", laid_unicode_utf8_first)], narrowed := true }
def IsoglossBordersUptoSaid : Prop := isoglossBordersUptoRow.holds Tryd.pinned (OpenSpec.upto isoglossBordersSpec)

end Rows
end Go.Proofs.YtgimhjkijpcgjaaDoor
